/- The walk of the law SwrrAhead. -/
import Derived.Test.YtidekhhelljjdaaLw
namespace Go.Proofs.Ytidekhhelljjdaa
open Go.RowKit Go.Shelf

/-- The numbers lie in a block of their own. -/
theorem numbers_new (tb : Nat) (mk sm : Bool) (ver W0 : Int) (sv : Value) (L : List B) (ns : Nat → Int) (w : World) (hTB : TB w tb mk sm ver W0 sv) (hR : RV w.heap.size w sv L ns) (hL : L.length ≤ 64) :
    Calls Try.prog 10 #[.pointer (some ⟨tb, 0, none⟩)] w fun y w' => ∃ v', y = .returned v' ∧ IL w' v' (upto ns L.length) ∧ (∀ b, v'.ownBlock = some b → w.heap.size ≤ b) ∧ Gn w w' := by
  obtain ⟨o, m, cap, rfl⟩ : ∃ o m cap, sv = .slice o m cap := by
    rcases hR with ⟨_, rfl⟩ | ⟨_, _, rfl, _⟩ <;> exact ⟨_, _, _, rfl⟩
  refine (callsIn_wide (n := 3)).1 ((numbers_in _ 3 trivial trivial trivial rfl (by omega) tb mk sm ver W0 o m cap L ns w hTB hR hL).mono ?_)
  rintro e w' ⟨v, rfl, ho, hb⟩
  refine ⟨v, rfl, IL.of_own (base := w.heap.size) ?_, fun b e => (ho.lt b e).1, below_gn hb⟩
  rw [upto_length, ← upto_ints]
  exact ho
theorem trn_numbers_new {w0 : World} {tb : Nat} {l : List B} {k : Nat} {ver : Int} {X : Nat → Prop} {wr : World} (h : Trn w0 tb l k ver X wr) (hk : 0 < k) (ht : l.length ≤ 64) :
    Calls Try.prog 10 #[.pointer (some ⟨tb, 0, none⟩)] wr fun y w' => ∃ v', y = .returned v' ∧ IL w' v' (upto (N l k) l.length) ∧ (∀ b, v'.ownBlock = some b → wr.heap.size ≤ b) ∧ Gn wr w' := by
  obtain ⟨h1, h2, ⟨rfl, h3⟩ | ⟨g, h3, h4, h5⟩⟩ := h
  · omega
  · obtain ⟨cap, hTB, hRow, _⟩ := h3
    exact numbers_new tb _ _ _ _ _ l _ wr hTB (.inr ⟨g, cap, rfl, hRow.1, hRow⟩) ht
theorem C_sum_le {l : List B} (h : 0 < l.length) (k j : Nat) : 0 ≤ C l k j ∧ C l k j ≤ k := C_nonneg l k j
theorem mul_bd {a b A B : Int} (h1 : 0 ≤ a ∧ a ≤ A) (h2 : 0 ≤ b ∧ b ≤ B) : 0 ≤ a * b ∧ a * b ≤ A * B :=
  ⟨Int.mul_nonneg h1.1 h2.1, Int.le_trans (Int.mul_le_mul_of_nonneg_right h1.2 h2.1) (Int.mul_le_mul_of_nonneg_left h2.2 (by omega))⟩

theorem sm_ge' {f : Nat → Int} {n : Nat} (h : ∀ j, j < n → 1 ≤ f j) : (n : Int) ≤ sm f n := by
  induction n with
  | zero => simp [sm]
  | succ n ih =>
    have := ih (fun j hj => h j (by omega))
    have := h n (by omega)
    rw [sm]
    omega

set_option maxHeartbeats 8000000 in
set_option maxRecDepth 100000 in
theorem ahead_walk (v : Value) (l : List B) (ag : Int) (w : World) (hsa : SA w v l) (hl : l.length ≤ maxLen) (hag : 0 ≤ ag ∧ ag ≤ 255) :
    Calls Try.prog 4 #[v, .int .u8 ag] w fun e w' => e = .returned (.bool true) ∧ Gn w w' := by
  obtain ⟨o, c, rfl⟩ := hsa.shape
  have HSA : Hid _ := hsa
  clear hsa
  unfold maxLen at hl
  by_cases a1 : 8 < l.length
  · have d1 : decide ((8 : Int) < (l.length : Int)) = true := by rw [decide_eq_true_eq]; omega
    go_enter Try.func4, Try.ntmps4
    go_wp2_with (first | (go_at_call 7; refine (awake_is _).mono ?_; rintro y w' ⟨rfl, q, rfl⟩))
    all_goals first
      | omega
      | (go_ret; exact ⟨rfl, (by with_reducible (repeat (first | exact Gn.refl _ | refine Gn.gr ?_ _ | refine Gn.alloc ?_ _ | refine Gn.drew ?_)))⟩)
  have d1 : decide ((8 : Int) < (l.length : Int)) = false := by rw [decide_eq_false_iff_not]; omega
  by_cases a2 : l.length = 0
  · have d2 : ((l.length : Int) == 0) = true := by rw [a2]; rfl
    go_enter Try.func4, Try.ntmps4
    go_wp2_with (first | (go_at_call 7; refine (awake_is _).mono ?_; rintro y w' ⟨rfl, q, rfl⟩))
    all_goals first
      | omega
      | (go_ret; exact ⟨rfl, (by with_reducible (repeat (first | exact Gn.refl _ | refine Gn.gr ?_ _ | refine Gn.alloc ?_ _ | refine Gn.drew ?_)))⟩)
  have d2 : ((l.length : Int) == 0) = false := by rw [beq_eq_false_iff_ne]; omega
  cases d3 : decide (Right l)
  · go_enter Try.func4, Try.ntmps4
    go_wp2_with (first
      | (go_at_call 6; refine (right_sa _ l _ (SA.grown HSA.out (by with_reducible (repeat (first | exact Gn.refl _ | refine Gn.gr ?_ _ | refine Gn.alloc ?_ _ | refine Gn.drew ?_)))) (by omega)).mono ?_; rintro y w' ⟨rfl, q, rfl⟩; (try simp only [d3]))
      | (go_at_call 7; refine (awake_is _).mono ?_; rintro y w' ⟨rfl, q, rfl⟩))
    all_goals first
      | omega
      | (go_ret; exact ⟨rfl, (by with_reducible (repeat (first | exact Gn.refl _ | refine Gn.gr ?_ _ | refine Gn.alloc ?_ _ | refine Gn.drew ?_)))⟩)
  have hR : Right l := by simpa using d3
  have ht : Tame l := hR.tame (by omega)
  have hl0 : 0 < l.length := by omega
  obtain ⟨b, off, rfl, _, hc⟩ := SA.row HSA.out hl0
  have HC : Hid _ := hc
  have hb0 := hc.1
  clear hc
  go_enter Try.func4, Try.ntmps4
  go_wp2_with (first
    | (go_at_call 6; refine (right_sa _ l _ (SA.grown HSA.out (by with_reducible (repeat (first | exact Gn.refl _ | refine Gn.gr ?_ _ | refine Gn.alloc ?_ _ | refine Gn.drew ?_)))) (by omega)).mono ?_; rintro y w' ⟨rfl, q, rfl⟩; (try simp only [d3])))
  go_loopw [5, 6] (fun a i wr => ∃ k : Nat, k ≤ l.length ∧ i = .int .i64 k ∧ a = .int .i64 (sumW (l.take k)) ∧ (∀ j, j < k → 1 ≤ (el l j).wt) ∧ Gn w wr) (fun _ i _ => l.length - (intOf i).toNat)
  case atStart => exact ⟨0, by omega, rfl, rfl, fun j hj => absurd hj (by omega), (by with_reducible (repeat (first | exact Gn.refl _ | refine Gn.gr ?_ _ | refine Gn.alloc ?_ _ | refine Gn.drew ?_)))⟩
  case round =>
    obtain ⟨k, hk, rfl, rfl, hall, p, rfl⟩ := hrel
    have HA : Hid _ := hall
    clear hall
    by_cases hlt : k < l.length
    · obtain ⟨c0, c1, c2, c3, c4, c5⟩ := (Cells.grown (show Cells w b off l from HC.out) (Gn.refl _)).2 k hlt
      have hs := ht.sum k hk
      have hs1 := ht.2 _ (el_mem hlt)
      have hi' : (k : Int) < (l.length : Int) := by omega
      by_cases b1 : (el l k).wt < 1
      · have e1 : decide ((el l k).wt < 1) = true := by rw [decide_eq_true_eq]; omega
        go_wp2_with (first | (go_at_call 7; refine (awake_is _).mono ?_; rintro y w' ⟨rfl, q2, rfl⟩))
        all_goals first
          | omega
          | (go_ret; exact ⟨rfl, (by with_reducible (repeat (first | exact Gn.refl _ | refine Gn.gr ?_ _ | refine Gn.alloc ?_ _ | refine Gn.drew ?_)))⟩)
      have e1 : decide ((el l k).wt < 1) = false := by rw [decide_eq_false_iff_not]; omega
      go_wp2
      all_goals first
        | omega
        | (go_roundw
           case rel => exact ⟨k + 1, by omega, by go_num, by rw [sum_take' hlt], all_next HA.out (by omega), (by with_reducible (repeat (first | exact Gn.refl _ | refine Gn.gr ?_ _ | refine Gn.alloc ?_ _ | refine Gn.drew ?_)))⟩
           case measure => simp [intOf]; omega)
    · have hge : k = l.length := by omega
      subst hge
      have hwt : ∀ j, j < l.length → 1 ≤ wt l j := fun j hj => HA.out j hj
      have hpos : 0 < sumW l := by
        have := sm_ge' (f := wt l) (n := l.length) hwt
        rw [sm_W] at this
        omega
      have HWT : Hid _ := hwt
      clear hwt
      rw [List.take_length]
      have hsum := ht.sum l.length (Nat.le_refl _)
      rw [List.take_length] at hsum
      have hgw : Gn w (w.gr p) := (by with_reducible (repeat (first | exact Gn.refl _ | refine Gn.gr ?_ _ | refine Gn.alloc ?_ _ | refine Gn.drew ?_)))
      have HGW : Hid _ := hgw
      clear hgw
      generalize w.gr p = wp at *
      have hmk := run_make_row' (P := Try.prog) 32 3 (.int .i64 0) 8 Try.underlying32 info_int rfl .i64 .i64 l.length (by omega) (by omega)
      go_wp2_with (first | (go_at_call 8; refine (new_is _).mono ?_; rintro e wn ⟨tb, rfl, hot, hTB, hgn⟩; have H1 : Hid _ := hTB; have H2 : Hid _ := hgn; clear hTB hgn))
      have hsz1 := (Kp.of_gn (fun _ => False) (show Gn w wp from HGW.out)).size
      have hlw : Lw w tb wn.heap.size l 0 (fun _ => 0) 1 _ := lw_start ((Kp.of_gn (fun j => w.heap.size ≤ j) (show Gn w wp from HGW.out)).gn H2.out) (show Trn w tb l 0 1 (fun _ => False) wn from ⟨by omega, fun h => h, .inl ⟨rfl, H1.out⟩⟩) wn.heap.size rfl
      have HL : Hid _ := hlw
      clear hlw H1 H2 hmk
      generalize wn.heap.size = cb at *
      go_loopw [9] (fun s wr => ∃ k : Nat, k ≤ 101 ∧ s = .int .i64 ((k : Int) + 1) ∧ Lw w tb cb l k (C l k) 1 wr) (fun s _ => 300 - (intOf s).toNat)
      case atStart => exact ⟨0, by omega, rfl, HL.out⟩
      case round =>
        clear HL
        obtain ⟨k, hk, rfl, hlw⟩ := hrel
        have HL : Hid _ := hlw
        have hp := trn_pick (v := .slice (some ⟨b, off, none⟩) l.length c) hlw.t (.inr ⟨b, off, c, rfl, hlw.sl HC.out⟩) hlw.kp.size (fun j e => by subst e; exact hlw.lc) hl0 ht HWT.out hpos
        clear hlw
        have hml := best_lt hl0 (N l k)
        obtain ⟨m, hm⟩ : ∃ m, best l (N l k) = m := ⟨_, rfl⟩
        rw [hm] at hp hml
        have HP : Hid _ := hp
        have HM : Hid _ := hm
        clear hp hm
        go_wp2_with (first
          | (go_at_call 7; refine (awake_is _).mono ?_; rintro y w' ⟨rfl, q2, rfl⟩)
          | (go_at_call 9; refine Calls.mono HP.out ?_; rintro y w1 ⟨rfl, hT, hK⟩; have HL1 : Hid _ := Lw.kept HL.out hT hK; clear hT hK)
          | (go_at_call 10; refine (trn_numbers_new (Lw.t HL1.out) (by omega) (by omega)).mono ?_; rintro y w2 ⟨v', rfl, hil, hfr, hg⟩; have HL3 : Hid _ := Lw.grown HL1.out hg; obtain ⟨o', c', rfl, hcs⟩ := hil.at; have HI : Hid _ := hcs; have HF : Hid _ := hfr; clear hcs hil hg hfr))
        · obtain ⟨b', rfl, hb', _⟩ := HI.out 0 hl0
          have hbc : b' ≠ cb := by
            have h1 := HF.out b' rfl
            have h2 := Lw.lc HL1.out
            omega
          have hbb : b ≠ cb := by
            have h2 := Lw.oc HL1.out
            omega
          have hcells : ∀ i, i < l.length → w2.cell? ⟨b', i, none⟩ = some (.int .i64 (N l (k + 1) i)) := fun i hi => by
            obtain ⟨b2, e, _, h⟩ := HI.out i hi
            cases e
            exact h
          have HN : Hid _ := hcells
          clear hcells HP HL HL1 HF HI
          go_loopw [13, 14] (fun so s wr => ∃ i : Nat, i ≤ l.length ∧ s = .int .i64 i ∧ so = .bool (decide (m < i)) ∧ Kp (fun j => j = cb) w2 wr ∧ Lw w tb cb l (k + 1) (fun j => if j < i then C l (k + 1) j else C l k j) 1 wr) (fun _ s _ => l.length - (intOf s).toNat)
          case atStart => exact ⟨0, by omega, rfl, by simp, Kp.refl _ _, Lw.congr HL3.out (fun j _ => by simp)⟩
          case round =>
            clear HL3
            obtain ⟨i, hi, rfl, rfl, hkp, hlw⟩ := hrel
            by_cases hlt : i < l.length
            · obtain ⟨c0, c1, c2, c3, c4, c5⟩ := (hlw.sl HC.out).2 i hlt
              have hbl := (hlw.sl HC.out).1
              obtain ⟨r0, r1⟩ := hlw.row i hlt
              replace r0 : wr.cell? ⟨cb, i, none⟩ = some (.int .i64 (C l k i)) := by simpa using r0
              have hlc := hlw.lc
              have hcn := C_nonneg l k i
              have hii : (i : Int) < (l.length : Int) := by omega
              have hCs : ∀ j, C l (k + 1) j = C l k j + if j = m then 1 else 0 := fun j => by show C l k j + (if j = best l (N l k) then 1 else 0) = _; rw [HM.out]
              have hcl := hkp.cell (HN.out i hlt) hbc
              have hb2 := World.block_lt_of_cell? _ _ hcl
              have hNe := N_eq l (k + 1) i
              have hNl := N_low hl0 HWT.out hpos (k + 1) i hlt
              have hwb := ht.2 _ (el_mem hlt)
              have hPb := mul_bd (a := (k : Int) + 1) (A := 102) (b := (el l i).wt) (B := 1000) ⟨by omega, by omega⟩ hwb
              rw [hCs i] at hNe
              have hk1 : ((k + 1 : Nat) : Int) = (k : Int) + 1 := by omega
              rw [hk1] at hNe
              replace hNe : N l (k + 1) i = ((k : Int) + 1) * (el l i).wt - (C l k i + if i = m then 1 else 0) * sumW l := hNe
              have HCS : Hid _ := hCs
              have HL1 : Hid _ := hlw
              have HK2 : Hid _ := hkp
              clear hlw hCs hkp
              by_cases hq : i = m
              · have hQb := mul_bd (a := C l k i + 1) (A := 102) (b := sumW l) (B := 64000) ⟨by omega, by omega⟩ ⟨by omega, by omega⟩
                rw [if_pos hq] at hNe
                rw [hNe] at hcl hNl
                have hdd : decide (((k : Int) + 1) * (el l i).wt + sumW l ≤ (C l k i + 1) * sumW l) = false := by rw [decide_eq_false_iff_not]; omega
                clear hNe
                subst hq
                go_wp2
                refine wp_region_gr (by kernel_rfl) (by kernel_rfl) ?_
                repeat (go_big_quiet_step (fail))
                refine wpQuiet_nil ?_
                rintro _ ⟨q4, rfl⟩
                go_wp2
                go_roundw
                case rel =>
                  refine ⟨i + 1, by omega, by go_num, by simp, ?_, Lw.congr (Lw.grown (Lw.set HL1.out hlt (C l k i + 1)) (by with_reducible (repeat (first | exact Gn.refl _ | refine Gn.gr ?_ _ | refine Gn.alloc ?_ _ | refine Gn.drew ?_)))) (fun j hj => ?_)⟩
                  · exact (Kp.set HK2.out cb i _ rfl).gn (by with_reducible (repeat (first | exact Gn.refl _ | refine Gn.gr ?_ _ | refine Gn.alloc ?_ _ | refine Gn.drew ?_)))
                  · show (if j = i then C l k i + 1 else if j < i then C l (k + 1) j else C l k j) = if j < i + 1 then C l (k + 1) j else C l k j
                    rw [HCS.out]
                    by_cases hji : j = i
                    · rw [if_pos hji, if_pos (show j < i + 1 by omega), if_pos hji, hji]
                    · rw [if_neg hji, if_neg hji]
                      by_cases h2 : j < i
                      · rw [if_pos h2, if_pos (by omega)]
                      · rw [if_neg h2, if_neg (by omega)]
                case measure => simp [intOf]; omega
              · have hid : ¬ (el l i).id = (el l m).id := fun e => hq (hR.inj hlt hml e)
                have hidb : ((el l i).id == (el l m).id) = false := by simpa using hid
                have hQb := mul_bd (a := C l k i) (A := 102) (b := sumW l) (B := 64000) ⟨by omega, by omega⟩ ⟨by omega, by omega⟩
                rw [if_neg hq, Int.add_zero] at hNe
                rw [hNe] at hcl hNl
                have hdd : decide (((k : Int) + 1) * (el l i).wt + sumW l ≤ C l k i * sumW l) = false := by rw [decide_eq_false_iff_not]; omega
                clear hNe
                go_wp2
                refine wp_region_gr (by kernel_rfl) (by kernel_rfl) ?_
                repeat (go_big_quiet_step (fail))
                refine wpQuiet_nil ?_
                rintro _ ⟨q4, rfl⟩
                go_wp2
                go_roundw
                case rel =>
                  refine ⟨i + 1, by omega, by go_num, ?_, Kp.gn HK2.out (by with_reducible (repeat (first | exact Gn.refl _ | refine Gn.gr ?_ _ | refine Gn.alloc ?_ _ | refine Gn.drew ?_))), Lw.congr (Lw.grown HL1.out (by with_reducible (repeat (first | exact Gn.refl _ | refine Gn.gr ?_ _ | refine Gn.alloc ?_ _ | refine Gn.drew ?_)))) (fun j hj => ?_)⟩
                  · have : (m < i) ↔ (m < i + 1) := by omega
                    simp only [this]
                  · show (if j < i then C l (k + 1) j else C l k j) = if j < i + 1 then C l (k + 1) j else C l k j
                    rw [HCS.out]
                    by_cases h2 : j < i
                    · rw [if_pos h2, if_pos (show j < i + 1 by omega)]
                    · rw [if_neg h2]
                      by_cases h3 : j < i + 1
                      · rw [if_pos h3, if_neg (show ¬ j = m by omega)]; omega
                      · rw [if_neg h3]
                case measure => simp [intOf]; omega
            · have hge : i = l.length := by omega
              subst hge
              have HL2 : Hid _ := hlw.congr (f' := C l (k + 1)) (fun j hj => by rw [if_pos hj])
              clear hlw hkp
              rw [decide_eq_true hml]
              go_wp2
              go_roundw
              case rel => exact ⟨k + 1, by omega, by go_num, HL2.out⟩
              case measure => simp [intOf]; omega
        · go_ret
          exact ⟨rfl, (((Lw.kp HL.out).gn (show Gn wr _ from (by with_reducible (repeat (first | exact Gn.refl _ | refine Gn.gr ?_ _ | refine Gn.alloc ?_ _ | refine Gn.drew ?_))))).to_gn (fun _ h => h))⟩
end Go.Proofs.Ytidekhhelljjdaa
