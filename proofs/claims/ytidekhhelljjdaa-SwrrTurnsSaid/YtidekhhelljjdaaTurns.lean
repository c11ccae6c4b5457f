/- The walk of the law SwrrTurns. -/
import Derived.Test.YtidekhhelljjdaaLw
namespace Go.Proofs.Ytidekhhelljjdaa
open Go.RowKit

theorem sm_ge {f : Nat → Int} {n : Nat} (h : ∀ j, j < n → 1 ≤ f j) : (n : Int) ≤ sm f n := by
  induction n with
  | zero => simp [sm]
  | succ n ih =>
    have := ih (fun j hj => h j (by omega))
    have := h n (by omega)
    rw [sm]
    omega

set_option maxHeartbeats 8000000 in
set_option maxRecDepth 100000 in
theorem turns_walk (v : Value) (l : List B) (ag : Int) (w : World) (hsa : SA w v l) (hl : l.length ≤ maxLen) (hag : 0 ≤ ag ∧ ag ≤ 255) :
    Calls Try.prog 3 #[v, .int .u8 ag] w fun e w' => e = .returned (.bool true) ∧ Gn w w' := by
  obtain ⟨o, c, rfl⟩ := hsa.shape
  have HSA : Hid _ := hsa
  clear hsa
  unfold maxLen at hl
  by_cases a1 : 8 < l.length
  · have d1 : decide ((8 : Int) < (l.length : Int)) = true := by rw [decide_eq_true_eq]; omega
    go_enter Try.func3, Try.ntmps3
    go_wp2_with (first | (go_at_call 7; refine (awake_is _).mono ?_; rintro y w' ⟨rfl, q, rfl⟩))
    all_goals first
      | omega
      | (go_ret; exact ⟨rfl, (by with_reducible (repeat (first | exact Gn.refl _ | refine Gn.gr ?_ _ | refine Gn.alloc ?_ _ | refine Gn.drew ?_)))⟩)
  have d1 : decide ((8 : Int) < (l.length : Int)) = false := by rw [decide_eq_false_iff_not]; omega
  cases d3 : decide (Right l)
  · go_enter Try.func3, Try.ntmps3
    go_wp2_with (first
      | (go_at_call 6; refine (right_sa _ l _ (SA.grown HSA.out (by with_reducible (repeat (first | exact Gn.refl _ | refine Gn.gr ?_ _ | refine Gn.alloc ?_ _ | refine Gn.drew ?_)))) (by omega)).mono ?_; rintro y w' ⟨rfl, q, rfl⟩; (try simp only [d3]))
      | (go_at_call 7; refine (awake_is _).mono ?_; rintro y w' ⟨rfl, q, rfl⟩))
    all_goals first
      | omega
      | (go_ret; exact ⟨rfl, (by with_reducible (repeat (first | exact Gn.refl _ | refine Gn.gr ?_ _ | refine Gn.alloc ?_ _ | refine Gn.drew ?_)))⟩)
  have hR : Right l := by simpa using d3
  have ht : Tame l := hR.tame (by omega)
  go_enter Try.func3, Try.ntmps3
  go_wp2_with (first
    | (go_at_call 6; refine (right_sa _ l _ (SA.grown HSA.out (by with_reducible (repeat (first | exact Gn.refl _ | refine Gn.gr ?_ _ | refine Gn.alloc ?_ _ | refine Gn.drew ?_)))) (by omega)).mono ?_; rintro y w' ⟨rfl, q, rfl⟩; (try simp only [d3])))
  go_loopw [5, 6] (fun a i wr => ∃ k : Nat, k ≤ l.length ∧ i = .int .i64 k ∧ a = .int .i64 (sumW (l.take k)) ∧ (∀ j, j < k → 1 ≤ (el l j).wt ∧ (el l j).wt ≤ 60) ∧ Gn w wr) (fun _ i _ => l.length - (intOf i).toNat)
  case atStart => exact ⟨0, by omega, rfl, rfl, fun j hj => absurd hj (by omega), (by with_reducible (repeat (first | exact Gn.refl _ | refine Gn.gr ?_ _ | refine Gn.alloc ?_ _ | refine Gn.drew ?_)))⟩
  case round =>
    obtain ⟨k, hk, rfl, rfl, hall, p, rfl⟩ := hrel
    have HA : Hid _ := hall
    clear hall
    by_cases hlt : k < l.length
    · obtain ⟨b, off, rfl, _, hc⟩ := SA.row HSA.out (show 0 < l.length by omega)
      obtain ⟨c0, c1, c2, c3, c4, c5⟩ := hc.2 k hlt
      have hbl := hc.1
      have hs := ht.sum k hk
      have hs1 := ht.2 _ (el_mem hlt)
      have hi' : (k : Int) < (l.length : Int) := by omega
      clear hc
      by_cases b1 : (el l k).wt < 1
      · have e1 : decide ((el l k).wt < 1) = true := by rw [decide_eq_true_eq]; omega
        go_wp2_with (first | (go_at_call 7; refine (awake_is _).mono ?_; rintro y w' ⟨rfl, q2, rfl⟩))
        all_goals first
          | omega
          | (go_ret; exact ⟨rfl, (by with_reducible (repeat (first | exact Gn.refl _ | refine Gn.gr ?_ _ | refine Gn.alloc ?_ _ | refine Gn.drew ?_)))⟩)
      have e1 : decide ((el l k).wt < 1) = false := by rw [decide_eq_false_iff_not]; omega
      by_cases b2 : 60 < (el l k).wt
      · have e2 : decide (60 < (el l k).wt) = true := by rw [decide_eq_true_eq]; omega
        go_wp2_with (first | (go_at_call 7; refine (awake_is _).mono ?_; rintro y w' ⟨rfl, q2, rfl⟩))
        all_goals first
          | omega
          | (go_ret; exact ⟨rfl, (by with_reducible (repeat (first | exact Gn.refl _ | refine Gn.gr ?_ _ | refine Gn.alloc ?_ _ | refine Gn.drew ?_)))⟩)
      have e2 : decide (60 < (el l k).wt) = false := by rw [decide_eq_false_iff_not]; omega
      go_wp2
      go_roundw
      case rel => exact ⟨k + 1, by omega, by go_num, by rw [sum_take' hlt], all_next HA.out (by omega), (by with_reducible (repeat (first | exact Gn.refl _ | refine Gn.gr ?_ _ | refine Gn.alloc ?_ _ | refine Gn.drew ?_)))⟩
      case measure => simp [intOf]; omega
    · have hge : k = l.length := by omega
      subst hge
      have hwt : ∀ j, j < l.length → 1 ≤ wt l j := fun j hj => (HA.out j hj).1
      have HWT : Hid _ := hwt
      clear hwt
      rw [List.take_length]
      have hsum := ht.sum l.length (Nat.le_refl _)
      rw [List.take_length] at hsum
      have hgw : Gn w (w.gr p) := (by with_reducible (repeat (first | exact Gn.refl _ | refine Gn.gr ?_ _ | refine Gn.alloc ?_ _ | refine Gn.drew ?_)))
      have HGW : Hid _ := hgw
      clear hgw
      generalize w.gr p = wp at *
      go_wp2_with (first | (go_at_call 8; refine (new_is _).mono ?_; rintro e wn ⟨tb, rfl, hot, hTB, hgn⟩; have H1 : Hid _ := hTB; have H2 : Hid _ := hgn; clear hTB hgn))
      have hsz1 := (Kp.of_gn (fun _ => False) (show Gn w wp from HGW.out)).size
      have hstart : Kp (fun j => w.heap.size ≤ j) w wn ∧ Trn w tb l 0 9 (fun _ => False) wn := ⟨(Kp.of_gn _ (show Gn w wp from HGW.out)).gn H2.out, by omega, fun h => h, .inl ⟨rfl, H1.out⟩⟩
      have HS : Hid _ := hstart
      clear hstart H1 H2
      go_loopw [8] (fun r wr => ∃ n : Nat, n ≤ 3 ∧ r = .int .i64 n ∧ Kp (fun j => w.heap.size ≤ j) w wr ∧ Trn w tb l 0 9 (fun _ => False) wr) (fun r _ => 4 - (intOf r).toNat)
      case atStart => exact ⟨0, by omega, rfl, HS.out.1, HS.out.2⟩
      case round =>
        clear HS
        obtain ⟨n, hn, rfl, hkp, htr⟩ := hrel
        have HK : Hid _ := hkp
        have htl : tb < wr.heap.size := Trn.lt htr
        have HL : Hid _ := lw_start hkp htr wr.heap.size rfl
        clear hkp htr
        have hmk := run_make_row' (P := Try.prog) 32 3 (.int .i64 0) 8 Try.underlying32 info_int rfl .i64 .i64 l.length (by omega) (by omega)
        go_wp2_with (first | (go_at_call 7; refine (awake_is _).mono ?_; rintro y w' ⟨rfl, q2, rfl⟩))
        · clear hmk HK htl
          generalize wr.heap.size = cb at *
          obtain ⟨W, hW⟩ : ∃ W : Nat, (W : Int) = sumW l := ⟨(sumW l).toNat, by omega⟩
          go_loopw [10] (fun s wr => ∃ k : Nat, k ≤ W ∧ s = .int .i64 k ∧ Lw w tb cb l k (C l k) 9 wr) (fun s _ => W - (intOf s).toNat)
          case atStart => exact ⟨0, by omega, rfl, HL.out⟩
          case round =>
            clear HL
            obtain ⟨k, hk, rfl, hlw⟩ := hrel
            have HL : Hid _ := hlw
            clear hlw
            by_cases hkW : k < W
            · have hl0 : 0 < l.length := by
                rcases Nat.eq_zero_or_pos l.length with h | h
                · have : l = [] := List.length_eq_zero_iff.1 h
                  subst this
                  simp [sumW] at hW
                  omega
                · exact h
              obtain ⟨b, off, rfl, _, hc⟩ := SA.row HSA.out hl0
              have HC : Hid _ := hc
              clear hc
              have hp := trn_pick (v := .slice (some ⟨b, off, none⟩) l.length c) (Lw.t HL.out) (.inr ⟨b, off, c, rfl, Lw.sl HL.out HC.out⟩) (Lw.kp HL.out).size (fun j e => by subst e; exact (Lw.lc HL.out)) hl0 ht HWT.out (by omega)
              have hml := best_lt hl0 (N l k)
              obtain ⟨m, hm⟩ : ∃ m, best l (N l k) = m := ⟨_, rfl⟩
              rw [hm] at hp hml
              have HP : Hid _ := hp
              have HM : Hid _ := hm
              clear hp hm
              have hik : (k : Int) < sumW l := by omega
              go_wp2_with (first | (go_at_call 9; refine Calls.mono HP.out ?_; rintro y w1 ⟨rfl, hT, hK⟩; have HL1 : Hid _ := Lw.kept HL.out hT hK; clear hT hK))
              clear HP HL
              go_loopw [13] (fun s wr => ∃ i : Nat, i ≤ l.length ∧ s = .int .i64 i ∧ Lw w tb cb l (k + 1) (fun j => if j < i then C l (k + 1) j else C l k j) 9 wr) (fun s _ => l.length - (intOf s).toNat)
              case atStart => exact ⟨0, by omega, rfl, Lw.congr HL1.out (fun j _ => by simp)⟩
              case round =>
                clear HL1
                obtain ⟨i, hi, rfl, hlw⟩ := hrel
                by_cases hlt : i < l.length
                · obtain ⟨c0, c1, c2, c3, c4, c5⟩ := (hlw.sl HC.out).2 i hlt
                  have hbl := (hlw.sl HC.out).1
                  obtain ⟨r0, r1⟩ := hlw.row i hlt
                  replace r0 : wr.cell? ⟨cb, i, none⟩ = some (.int .i64 (C l k i)) := by simpa using r0
                  have hlc := hlw.lc
                  have hcn := C_nonneg l k i
                  have hii : (i : Int) < (l.length : Int) := by omega
                  have hCs : ∀ j, C l (k + 1) j = C l k j + if j = m then 1 else 0 := fun j => by show C l k j + (if j = best l (N l k) then 1 else 0) = _; rw [HM.out]
                  have HCS : Hid _ := hCs
                  have HL1 : Hid _ := hlw
                  clear hlw hCs
                  by_cases hq : i = m
                  · subst hq
                    go_wp2
                    go_roundw
                    case rel =>
                      refine ⟨i + 1, by omega, by go_num, Lw.congr (Lw.set HL1.out hlt (C l k i + 1)) (fun j hj => ?_)⟩
                      show (if j = i then C l k i + 1 else if j < i then C l (k + 1) j else C l k j) = if j < i + 1 then C l (k + 1) j else C l k j
                      rw [HCS.out]
                      by_cases hji : j = i
                      · rw [if_pos hji, if_pos (show j < i + 1 by omega), if_pos hji, hji]
                      · rw [if_neg hji, if_neg hji]
                        by_cases h2 : j < i
                        · rw [if_pos h2, if_pos (by omega)]
                        · rw [if_neg h2, if_neg (by omega)]
                    case measure => simp [intOf]; omega
                  · have hid : ¬ (el l i).id = (el l m).id := fun e => hq (hR.inj hlt hml e)
                    have hidb : ((el l i).id == (el l m).id) = false := by simpa using hid
                    go_wp2
                    go_roundw
                    case rel =>
                      refine ⟨i + 1, by omega, by go_num, Lw.congr HL1.out (fun j hj => ?_)⟩
                      show (if j < i then C l (k + 1) j else C l k j) = if j < i + 1 then C l (k + 1) j else C l k j
                      rw [HCS.out]
                      by_cases h2 : j < i
                      · rw [if_pos h2, if_pos (show j < i + 1 by omega)]
                      · rw [if_neg h2]
                        by_cases h3 : j < i + 1
                        · rw [if_pos h3, if_neg (show ¬ j = m by omega)]; omega
                        · rw [if_neg h3]
                    case measure => simp [intOf]; omega
                · have hge : i = l.length := by omega
                  subst hge
                  have HL2 : Hid _ := hlw.congr (f' := C l (k + 1)) (fun j hj => by rw [if_pos hj])
                  clear hlw
                  go_wp2_with (first | (go_at_call 10; refine (trn_numbers (Lw.t HL2.out) (.inl (by omega)) (by omega)).mono ?_; rintro y w2 ⟨v', rfl, hil, hg⟩; have HL3 : Hid _ := Lw.grown HL2.out hg; obtain ⟨o', c', rfl, hcs⟩ := hil.at; have HI : Hid _ := hcs; clear hcs hil hg))
                  clear HL2
                  have hbd := N_bd ht hl0 HWT.out (by omega) (k + 1)
                  have HB : Hid _ := hbd
                  clear hbd
                  go_loop [15, 16] (fun s i => ∃ n : Nat, n ≤ l.length ∧ i = .int .i64 n ∧ s = .int .i64 (sm (N l (k + 1)) n)) (fun _ i => l.length - (intOf i).toNat)
                  case atStart => exact ⟨0, by omega, rfl, rfl⟩
                  case round =>
                    obtain ⟨n, hn, rfl, rfl⟩ := hrel
                    by_cases hlt : n < l.length
                    · obtain ⟨b', rfl, hb', hcl⟩ := HI.out n hlt
                      have s1 := sm_bd (fun j (hj : j < n) => HB.out j (by omega))
                      have s2 := HB.out n hlt
                      have hnn : (n : Int) < (l.length : Int) := by omega
                      go_wp2
                      go_round
                      case rel => exact ⟨n + 1, by omega, by go_num, by rw [sm]⟩
                      case measure => simp [intOf]; omega
                    · have hge : n = l.length := by omega
                      subst hge
                      rw [sm_N hl0 (k + 1)]
                      go_wp2
                      go_roundw
                      case rel => exact ⟨k + 1, by omega, by go_num, HL3.out⟩
                      case measure => simp [intOf]; omega
            · have hge : k = W := by omega
              subst hge
              have hkl : 0 < k ∨ l = [] := by
                rcases Nat.eq_zero_or_pos l.length with h | h
                · exact .inr (List.length_eq_zero_iff.1 h)
                · left
                  have := sm_ge (f := wt l) (n := l.length) HWT.out
                  rw [sm_W] at this
                  omega
              have hz : ∀ j, j < l.length → N l k j = 0 ∧ C l k j = (el l j).wt := fun j hj => by
                have h0 : 0 < k := by
                  rcases hkl with h | rfl
                  · exact h
                  · simp at hj
                exact ⟨N_all (by omega) HWT.out hW h0 j hj, C_all (by omega) HWT.out hW h0 j hj⟩
              have HZ : Hid _ := hz
              clear hz
              go_wp2_with (first | (go_at_call 10; refine (trn_numbers (Lw.t HL.out) hkl (by omega)).mono ?_; rintro y w2 ⟨v', rfl, hil, hg⟩; have HL3 : Hid _ := Lw.grown HL.out hg; obtain ⟨o', c', rfl, hcs⟩ := hil.at; have HI : Hid _ := hcs; clear hcs hil hg))
              clear HL
              go_loopw [18] (fun s wr => ∃ i : Nat, i ≤ l.length ∧ s = .int .i64 i ∧ Gn w2 wr) (fun s _ => l.length - (intOf s).toNat)
              case atStart => exact ⟨0, by omega, rfl, (by with_reducible (repeat (first | exact Gn.refl _ | refine Gn.gr ?_ _ | refine Gn.alloc ?_ _ | refine Gn.drew ?_)))⟩
              case round =>
                obtain ⟨i, hi, rfl, p3, rfl⟩ := hrel
                by_cases hlt : i < l.length
                · obtain ⟨b, off, rfl, _, hc⟩ := SA.row HSA.out (show 0 < l.length by omega)
                  obtain ⟨c0, c1, c2, c3, c4, c5⟩ := (Lw.sl HL3.out hc).2 i hlt
                  have hbl := (Lw.sl HL3.out hc).1
                  obtain ⟨b', rfl, hb', hcl⟩ := HI.out i hlt
                  rw [(HZ.out i hlt).1] at hcl
                  obtain ⟨r0, _⟩ := (Lw.row HL3.out) i hlt
                  rw [(HZ.out i hlt).2] at r0
                  have hlc := Lw.lc HL3.out
                  have hii : (i : Int) < (l.length : Int) := by omega
                  clear hc
                  go_wp2
                  refine wp_region_gr (by kernel_rfl) (by kernel_rfl) ?_
                  repeat (go_big_quiet_step (fail))
                  refine wpQuiet_nil ?_
                  rintro _ ⟨q4, rfl⟩
                  go_wp2
                  go_roundw
                  case rel => exact ⟨i + 1, by omega, by go_num, (by with_reducible (repeat (first | exact Gn.refl _ | refine Gn.gr ?_ _ | refine Gn.alloc ?_ _ | refine Gn.drew ?_)))⟩
                  case measure => simp [intOf]; omega
                · have hge : i = l.length := by omega
                  subst hge
                  have hfin : Kp (fun j => w.heap.size ≤ j) w (w2.gr p3) ∧ Trn w tb l 0 9 (fun _ => False) (w2.gr p3) :=
                    ⟨(Lw.kp HL3.out).gn (by with_reducible (repeat (first | exact Gn.refl _ | refine Gn.gr ?_ _ | refine Gn.alloc ?_ _ | refine Gn.drew ?_))), (((Lw.t HL3.out).restart (fun j hj => (HZ.out j hj).1)).newX (fun j e => e.elim)).grown (by with_reducible (repeat (first | exact Gn.refl _ | refine Gn.gr ?_ _ | refine Gn.alloc ?_ _ | refine Gn.drew ?_)))⟩
                  have HF : Hid _ := hfin
                  clear hfin
                  go_wp2
                  go_roundw
                  case rel => exact ⟨n + 1, by omega, by go_num, HF.out.1, HF.out.2⟩
                  case measure => simp [intOf]; omega
        · go_ret
          exact ⟨rfl, ((Kp.gn HK.out (show Gn wr _ from (by with_reducible (repeat (first | exact Gn.refl _ | refine Gn.gr ?_ _ | refine Gn.alloc ?_ _ | refine Gn.drew ?_))))).to_gn (fun _ h => h))⟩
end Go.Proofs.Ytidekhhelljjdaa
