/- The reference's Pick with a new set. -/
import Derived.Test.YtidekhhelljjdaaRTurn
namespace Go.Proofs.Ytidekhhelljjdaa
open Go.RowKit

section
variable {w : World} {xb : Nat} {hs : Bool} {ver : Int} {lv nv : Value}
theorem RT.set0 (h : RT w xb hs ver lv nv) (b : Bool) : RT (w.setCell ⟨xb, 0, none⟩ (.bool b)) xb b ver lv nv := by
  unfold RT World.setCell at *; simp [Array.getElem?_modify, h]
theorem RT.set1 (h : RT w xb hs ver lv nv) (b : Int) : RT (w.setCell ⟨xb, 1, none⟩ (.int .i64 b)) xb hs b lv nv := by
  unfold RT World.setCell at *; simp [Array.getElem?_modify, h]
theorem RT.set2 (h : RT w xb hs ver lv nv) (b : Value) : RT (w.setCell ⟨xb, 2, none⟩ b) xb hs ver b nv := by
  unfold RT World.setCell at *; simp [Array.getElem?_modify, h]
theorem RT.set3 (h : RT w xb hs ver lv nv) (b : Value) : RT (w.setCell ⟨xb, 3, none⟩ b) xb hs ver lv b := by
  unfold RT World.setCell at *; simp [Array.getElem?_modify, h]
end
theorem size_set (w : World) (a : Addr) (v : Value) : (w.setCell a v).heap.size = w.heap.size := by unfold World.setCell; simp
theorem nums_new (W : World) (n nb : Nat) (h : nb = W.heap.size) : Nums (W.alloc (.cells (madeCells #[.int .i64 0] n) 3)) nb n (fun _ => 0) := by
  subst h
  have hb := heap_alloc_new W (.cells (madeCells #[.int .i64 0] n) 3)
  refine ⟨lt_of_block hb, fun i hi => ⟨?_, by simp only [World.frozen?, hb]; simp⟩⟩
  simp only [World.cell?, hb]
  exact madeCells_at _ _ hi

set_option maxHeartbeats 8000000 in
set_option maxRecDepth 100000 in
theorem rpick_new (xb b off cl : Nat) (ver0 ver : Int) (lv nv : Value) (l : List B) (w : World) (h : RT w xb false ver0 lv nv) (hC : Cells w b off l) (hxb : b ≠ xb) (hlen : 0 < l.length) (ht : Tame l)
    (hlvs : ∃ o n c, lv = .slice o n c) (hnvs : ∃ o n c, nv = .slice o n c) :
    Calls Try.prog 11 #[.pointer (some ⟨xb, 0, none⟩), .int .i64 ver, .slice (some ⟨b, off, none⟩) l.length cl] w fun y w' => ∃ nb cn, w.heap.size ≤ nb ∧ y = .returned (.tuple #[.int .i64 (el l (best l fun _ => 0)).id, .bool true]) ∧
      RHas w' xb nb b off cl cn l (nx l fun _ => 0) ver ∧ Kp (fun j => j = xb ∨ j = nb) w w' := by
  obtain ⟨o1, n1', c1', rfl⟩ := hlvs
  obtain ⟨o2, n2', c2', rfl⟩ := hnvs
  obtain ⟨ns, hns⟩ : ∃ ns : Nat → Int, ns = fun _ => 0 := ⟨_, rfl⟩
  rw [← hns]
  obtain ⟨tl, x0, x1, x2, x3⟩ := h.facts
  have f0 := h.free 0
  have f1 := h.free 1
  have f2 := h.free 2
  have f3 := h.free 3
  have hbw := hC.1
  have HR0 : Hid _ := h
  have HC : Hid _ := hC
  have HNS : Hid _ := hns
  have HBd : Hid (Bd l ns) := by
    intro j _
    rw [hns]
    exact ⟨show (-1000000000 : Int) ≤ 0 by decide, show (0 : Int) ≤ 1000000000 by decide⟩
  clear h hC hns
  have hll := ht.1
  have hmk := run_make_row' (P := Try.prog) 32 3 (.int .i64 0) 8 Try.underlying32 info_int rfl .i64 .i64 l.length (by omega) (by omega)
  go_enter Try.func11, Try.ntmps11
  go_wp2
  have hR1 : RT (((((w.setCell ⟨xb, 0, none⟩ (.bool true)).setCell ⟨xb, 1, none⟩ (.int .i64 ver)).setCell ⟨xb, 2, none⟩ (.slice (some ⟨b, off, none⟩) l.length cl)).setCell ⟨xb, 3, none⟩ (.slice (some ⟨w.heap.size, 0, none⟩) l.length l.length))) xb true ver (.slice (some ⟨b, off, none⟩) l.length cl) (.slice (some ⟨w.heap.size, 0, none⟩) l.length l.length) := RT.set3 (RT.set2 (RT.set1 (RT.set0 (show RT w xb false ver0 _ _ from HR0.out) _) _) _) _
  have hK1 : Kp (fun j => j = xb) w (((((w.setCell ⟨xb, 0, none⟩ (.bool true)).setCell ⟨xb, 1, none⟩ (.int .i64 ver)).setCell ⟨xb, 2, none⟩ (.slice (some ⟨b, off, none⟩) l.length cl)).setCell ⟨xb, 3, none⟩ (.slice (some ⟨w.heap.size, 0, none⟩) l.length l.length))) := ((((Kp.refl (fun j => j = xb) w).set xb 0 _ rfl).set xb 1 _ rfl).set xb 2 _ rfl).set xb 3 _ rfl
  have hC1 := cells_kept (show Cells w b off l from HC.out) hK1 hxb
  have hN1 := nums_new (((((w.setCell ⟨xb, 0, none⟩ (.bool true)).setCell ⟨xb, 1, none⟩ (.int .i64 ver)).setCell ⟨xb, 2, none⟩ (.slice (some ⟨b, off, none⟩) l.length cl)).setCell ⟨xb, 3, none⟩ (.slice (some ⟨w.heap.size, 0, none⟩) l.length l.length))) l.length w.heap.size (by simp only [size_set])
  have hR2 : RT ((((((w.setCell ⟨xb, 0, none⟩ (.bool true)).setCell ⟨xb, 1, none⟩ (.int .i64 ver)).setCell ⟨xb, 2, none⟩ (.slice (some ⟨b, off, none⟩) l.length cl)).setCell ⟨xb, 3, none⟩ (.slice (some ⟨w.heap.size, 0, none⟩) l.length l.length))).alloc (.cells (madeCells #[.int .i64 0] l.length) 3)) xb true ver (.slice (some ⟨b, off, none⟩) l.length cl) (.slice (some ⟨w.heap.size, 0, none⟩) l.length l.length) := hR1.grown (by with_reducible (repeat (first | exact Gn.refl _ | refine Gn.gr ?_ _ | refine Gn.alloc ?_ _ | refine Gn.drew ?_)))
  have hK2 : Kp (fun j => j = xb) w ((((((w.setCell ⟨xb, 0, none⟩ (.bool true)).setCell ⟨xb, 1, none⟩ (.int .i64 ver)).setCell ⟨xb, 2, none⟩ (.slice (some ⟨b, off, none⟩) l.length cl)).setCell ⟨xb, 3, none⟩ (.slice (some ⟨w.heap.size, 0, none⟩) l.length l.length))).alloc (.cells (madeCells #[.int .i64 0] l.length) 3)) := hK1.gn (by with_reducible (repeat (first | exact Gn.refl _ | refine Gn.gr ?_ _ | refine Gn.alloc ?_ _ | refine Gn.drew ?_)))
  have hC2 : Cells ((((((w.setCell ⟨xb, 0, none⟩ (.bool true)).setCell ⟨xb, 1, none⟩ (.int .i64 ver)).setCell ⟨xb, 2, none⟩ (.slice (some ⟨b, off, none⟩) l.length cl)).setCell ⟨xb, 3, none⟩ (.slice (some ⟨w.heap.size, 0, none⟩) l.length l.length))).alloc (.cells (madeCells #[.int .i64 0] l.length) 3)) b off l := hC1.grown (by with_reducible (repeat (first | exact Gn.refl _ | refine Gn.gr ?_ _ | refine Gn.alloc ?_ _ | refine Gn.drew ?_)))
  have hall := And.intro hR2 (And.intro hK2 (And.intro hC2 hN1))
  have HALL : Hid _ := hall
  clear hR1 hK1 hC1 hN1 hR2 hK2 hC2 hall hmk f0 f1 f2 f3 x0 x1 x2 x3 HR0
  generalize ((((((w.setCell ⟨xb, 0, none⟩ (.bool true)).setCell ⟨xb, 1, none⟩ (.int .i64 ver)).setCell ⟨xb, 2, none⟩ (.slice (some ⟨b, off, none⟩) l.length cl)).setCell ⟨xb, 3, none⟩ (.slice (some ⟨w.heap.size, 0, none⟩) l.length l.length))).alloc (.cells (madeCells #[.int .i64 0] l.length) 3)) = W0 at *
  generalize hnbw : w.heap.size = nb at *
  have hne : nb ≠ xb := by omega
  have hnb : nb ≠ b := by omega
  go_loopw [8, 9, 10] (fun a be i wr => ∃ k : Nat, k ≤ l.length ∧ i = .int .i64 k ∧ a = .int .i64 (sumW (l.take k)) ∧ be = .int .i64 (if k = 0 then -1 else (bst (plus l ns) k : Nat)) ∧
    Nums wr nb l.length (fun j => if j < k then plus l ns j else ns j) ∧ RT wr xb true ver (.slice (some ⟨b, off, none⟩) l.length cl) (.slice (some ⟨nb, 0, none⟩) l.length l.length) ∧ Cells wr b off l ∧ Kp (fun j => j = xb ∨ j = nb) w wr) (fun _ _ i _ => l.length - (intOf i).toNat)
  case atStart =>
    refine ⟨0, by omega, rfl, rfl, rfl, Nums.congr (HALL.out.2.2.2) (fun j _ => by rw [HNS.out]; simp), HALL.out.1, HALL.out.2.2.1, (HALL.out.2.1).mono (fun j _ e => .inl e)⟩
  case round =>
    obtain ⟨k, hk, rfl, rfl, rfl, hN, hRT, hcs, hkp⟩ := hrel
    obtain ⟨tl1, y0, y1, y2, y3⟩ := hRT.facts
    have HRT : Hid _ := hRT
    have HCC : Hid _ := hcs
    clear hRT
    by_cases hlt : k < l.length
    · obtain ⟨c0, c1, c2, c3, c4, c5⟩ := hcs.2 k hlt
      have hbl := hcs.1
      obtain ⟨n0, n1⟩ := hN.2 k hlt
      replace n0 : wr.cell? ⟨nb, k, none⟩ = some (.int .i64 (ns k)) := by simpa using n0
      have hnl := hN.1
      have hki : (k : Int) < (l.length : Int) := by omega
      have hnk := HBd.out k hlt
      have hwk := ht.2 _ (el_mem hlt)
      have hs := ht.sum k hk
      have hw : IntKind.i64.wrap (ns k + (el l k).wt) = plus l ns k := by unfold plus; go_ints; trivial
      have HN1 : Hid _ := hN
      have HK1 : Hid _ := hkp
      clear hN hkp hcs
      by_cases k0 : k = 0
      · subst k0
        simp only [Nat.zero_mul, Nat.add_zero] at c0 c1 c2 c3 c4 c5
        have hki0 : (0 : Int) < (l.length : Int) := by omega
        have e0 : sumW (l.take 0) = 0 := by simp [sumW]
        rw [e0]
        clear hs
        go_wp2
        refine wp_region_gr (by kernel_rfl) (by kernel_rfl) ?_
        repeat (go_big_quiet_step (fail))
        refine wpQuiet_nil ?_
        rintro _ ⟨q4, rfl⟩
        go_wp2
        refine wp_region_gr (by kernel_rfl) (by kernel_rfl) ?_
        repeat (go_big_quiet_step (fail))
        refine wpQuiet_nil ?_
        rintro _ ⟨q5, rfl⟩
        go_wp2
        go_roundw
        case rel =>
          refine ⟨0 + 1, by omega, by go_num, by (first | (rw [sum_take' hlt, e0]; done) | (rw [sum_take' hlt, e0]; go_num)), by simp [bst], Nums.congr (Nums.kept (Nums.set (show Nums wr nb l.length _ from HN1.out) (plus l ns 0)) (Kp.of_gn (fun _ => False) (by with_reducible (repeat (first | exact Gn.refl _ | refine Gn.gr ?_ _ | refine Gn.alloc ?_ _ | refine Gn.drew ?_)))) (fun e => e)) (fun j hj => ?_), RT.kept (show RT wr xb true ver (.slice (some ⟨b, off, none⟩) l.length cl) (.slice (some ⟨nb, 0, none⟩) l.length l.length) from HRT.out) (((Kp.refl (fun j => j = nb) wr).set nb 0 (.int .i64 (plus l ns 0)) rfl).gn (by with_reducible (repeat (first | exact Gn.refl _ | refine Gn.gr ?_ _ | refine Gn.alloc ?_ _ | refine Gn.drew ?_)))) (fun e => hne e.symm), cells_kept (show Cells wr b off l from HCC.out) (((Kp.refl (fun j => j = nb) wr).set nb 0 (.int .i64 (plus l ns 0)) rfl).gn (by with_reducible (repeat (first | exact Gn.refl _ | refine Gn.gr ?_ _ | refine Gn.alloc ?_ _ | refine Gn.drew ?_)))) (fun e => hnb e.symm), (show Kp (fun j => j = xb ∨ j = nb) w wr from HK1.out).trans ((((Kp.refl (fun j => j = nb) wr).set nb 0 (.int .i64 (plus l ns 0)) rfl).gn (by with_reducible (repeat (first | exact Gn.refl _ | refine Gn.gr ?_ _ | refine Gn.alloc ?_ _ | refine Gn.drew ?_)))).mono (fun j _ e => .inr e))⟩
          show (if j = 0 then plus l ns 0 else if j < 0 then plus l ns j else ns j) = if j < 0 + 1 then plus l ns j else ns j
          by_cases hjk : j = 0
          · rw [if_pos hjk, if_pos (show j < 0 + 1 by omega), hjk]
          · rw [if_neg hjk]
            by_cases h2 : j < 0
            · rw [if_pos h2, if_pos (show j < 0 + 1 by omega)]
            · rw [if_neg h2, if_neg (show ¬ j < 0 + 1 by omega)]
        case measure => simp [intOf]; omega
      · have hmk := bst_lt (plus l ns) (show 0 < k by omega)
        obtain ⟨m, hm⟩ : ∃ m, bst (plus l ns) k = m := ⟨_, rfl⟩
        rw [hm] at hmk
        rw [if_neg k0, hm]
        obtain ⟨p0, p1⟩ := (show Nums wr nb l.length (fun j => if j < k then plus l ns j else ns j) from HN1.out).2 m (by omega)
        replace p0 : wr.cell? ⟨nb, m, none⟩ = some (.int .i64 (plus l ns m)) := by simpa [hmk] using p0
        have hmn : m ≠ k := by omega
        have hmi : (m : Int) < (l.length : Int) := by omega
        have dm : decide ((m : Int) < 0) = false := by rw [decide_eq_false_iff_not]; omega
        have hne2 : xb ≠ nb := fun e => hne e.symm
        have HM : Hid _ := hm
        clear hm
        by_cases hgt : plus l ns m < plus l ns k
        · have dg : decide (plus l ns m < plus l ns k) = true := by rw [decide_eq_true_eq]; exact hgt
          go_wp2
          refine wp_region_gr (by kernel_rfl) (by kernel_rfl) ?_
          repeat (go_big_quiet_step (fail))
          refine wpQuiet_nil ?_
          rintro _ ⟨q4, rfl⟩
          go_wp2
          refine wp_region_gr (by kernel_rfl) (by kernel_rfl) ?_
          repeat (go_big_quiet_step (fail))
          refine wpQuiet_nil ?_
          rintro _ ⟨q5, rfl⟩
          go_wp2
          go_roundw
          case rel =>
            refine ⟨k + 1, by omega, by go_num, by rw [sum_take' hlt], by rw [if_neg (by omega), bst, HM.out, if_pos hgt], Nums.congr (Nums.kept (Nums.set (show Nums wr nb l.length _ from HN1.out) (plus l ns k)) (Kp.of_gn (fun _ => False) (by with_reducible (repeat (first | exact Gn.refl _ | refine Gn.gr ?_ _ | refine Gn.alloc ?_ _ | refine Gn.drew ?_)))) (fun e => e)) (fun j hj => ?_), RT.kept (show RT wr xb true ver (.slice (some ⟨b, off, none⟩) l.length cl) (.slice (some ⟨nb, 0, none⟩) l.length l.length) from HRT.out) (((Kp.refl (fun j => j = nb) wr).set nb k (.int .i64 (plus l ns k)) rfl).gn (by with_reducible (repeat (first | exact Gn.refl _ | refine Gn.gr ?_ _ | refine Gn.alloc ?_ _ | refine Gn.drew ?_)))) (fun e => hne e.symm), cells_kept (show Cells wr b off l from HCC.out) (((Kp.refl (fun j => j = nb) wr).set nb k (.int .i64 (plus l ns k)) rfl).gn (by with_reducible (repeat (first | exact Gn.refl _ | refine Gn.gr ?_ _ | refine Gn.alloc ?_ _ | refine Gn.drew ?_)))) (fun e => hnb e.symm), (show Kp (fun j => j = xb ∨ j = nb) w wr from HK1.out).trans ((((Kp.refl (fun j => j = nb) wr).set nb k (.int .i64 (plus l ns k)) rfl).gn (by with_reducible (repeat (first | exact Gn.refl _ | refine Gn.gr ?_ _ | refine Gn.alloc ?_ _ | refine Gn.drew ?_)))).mono (fun j _ e => .inr e))⟩
            show (if j = k then plus l ns k else if j < k then plus l ns j else ns j) = if j < k + 1 then plus l ns j else ns j
            by_cases hjk : j = k
            · rw [if_pos hjk, if_pos (show j < k + 1 by omega), hjk]
            · rw [if_neg hjk]
              by_cases h2 : j < k
              · rw [if_pos h2, if_pos (show j < k + 1 by omega)]
              · rw [if_neg h2, if_neg (show ¬ j < k + 1 by omega)]
          case measure => simp [intOf]; omega
        · have dg : decide (plus l ns m < plus l ns k) = false := by rw [decide_eq_false_iff_not]; exact hgt
          go_wp2
          refine wp_region_gr (by kernel_rfl) (by kernel_rfl) ?_
          repeat (go_big_quiet_step (fail))
          refine wpQuiet_nil ?_
          rintro _ ⟨q4, rfl⟩
          go_wp2
          refine wp_region_gr (by kernel_rfl) (by kernel_rfl) ?_
          repeat (go_big_quiet_step (fail))
          refine wpQuiet_nil ?_
          rintro _ ⟨q5, rfl⟩
          go_wp2
          go_roundw
          case rel =>
            refine ⟨k + 1, by omega, by go_num, by rw [sum_take' hlt], by rw [if_neg (by omega), bst, HM.out, if_neg (by omega)], Nums.congr (Nums.kept (Nums.set (show Nums wr nb l.length _ from HN1.out) (plus l ns k)) (Kp.of_gn (fun _ => False) (by with_reducible (repeat (first | exact Gn.refl _ | refine Gn.gr ?_ _ | refine Gn.alloc ?_ _ | refine Gn.drew ?_)))) (fun e => e)) (fun j hj => ?_), RT.kept (show RT wr xb true ver (.slice (some ⟨b, off, none⟩) l.length cl) (.slice (some ⟨nb, 0, none⟩) l.length l.length) from HRT.out) (((Kp.refl (fun j => j = nb) wr).set nb k (.int .i64 (plus l ns k)) rfl).gn (by with_reducible (repeat (first | exact Gn.refl _ | refine Gn.gr ?_ _ | refine Gn.alloc ?_ _ | refine Gn.drew ?_)))) (fun e => hne e.symm), cells_kept (show Cells wr b off l from HCC.out) (((Kp.refl (fun j => j = nb) wr).set nb k (.int .i64 (plus l ns k)) rfl).gn (by with_reducible (repeat (first | exact Gn.refl _ | refine Gn.gr ?_ _ | refine Gn.alloc ?_ _ | refine Gn.drew ?_)))) (fun e => hnb e.symm), (show Kp (fun j => j = xb ∨ j = nb) w wr from HK1.out).trans ((((Kp.refl (fun j => j = nb) wr).set nb k (.int .i64 (plus l ns k)) rfl).gn (by with_reducible (repeat (first | exact Gn.refl _ | refine Gn.gr ?_ _ | refine Gn.alloc ?_ _ | refine Gn.drew ?_)))).mono (fun j _ e => .inr e))⟩
            show (if j = k then plus l ns k else if j < k then plus l ns j else ns j) = if j < k + 1 then plus l ns j else ns j
            by_cases hjk : j = k
            · rw [if_pos hjk, if_pos (show j < k + 1 by omega), hjk]
            · rw [if_neg hjk]
              by_cases h2 : j < k
              · rw [if_pos h2, if_pos (show j < k + 1 by omega)]
              · rw [if_neg h2, if_neg (show ¬ j < k + 1 by omega)]
          case measure => simp [intOf]; omega
    · have hge : k = l.length := by omega
      subst hge
      have hN2 := hN.congr (ns' := plus l ns) (fun j hj => by rw [if_pos hj])
      have hml := best_lt hlen ns
      obtain ⟨m, hm⟩ : ∃ m, best l ns = m := ⟨_, rfl⟩
      have hm2 : bst (plus l ns) l.length = m := hm
      rw [hm] at hml
      rw [if_neg (by omega), hm2, List.take_length]
      obtain ⟨p0, p1⟩ := hN2.2 m hml
      obtain ⟨c0, _⟩ := hcs.2 m hml
      have hbl := hcs.1
      have hnl := hN2.1
      have hsum := ht.sum l.length (Nat.le_refl _)
      rw [List.take_length] at hsum
      have hbm := HBd.out m hml
      have hwm := ht.2 _ (el_mem hml)
      have hpm : plus l ns m = ns m + (el l m).wt := rfl
      have hw : IntKind.i64.wrap (plus l ns m - sumW l) = plus l ns m - sumW l := by go_ints; trivial
      have hmi : (m : Int) < (l.length : Int) := by omega
      have dm : decide ((m : Int) < 0) = false := by rw [decide_eq_false_iff_not]; omega
      have hne2 : xb ≠ nb := fun e => hne e.symm
      have hnb2 : b ≠ nb := fun e => hnb e.symm
      have HM : Hid _ := hm
      have HN2 : Hid _ := hN2
      have HK1 : Hid _ := hkp
      have HC2 : Hid _ := hcs
      clear hm hm2 hN hN2 hkp hcs hpm
      go_wp2
      have kp : Kp (fun j => j = nb) wr (wr.setCell ⟨nb, m, none⟩ (.int .i64 (plus l ns m - sumW l))) := (Kp.refl (fun j => j = nb) wr).set nb m _ rfl
      have kall := (show Kp (fun j => j = xb ∨ j = nb) w wr from HK1.out).trans (kp.mono (fun j _ e => .inr e))
      have hnx : Nums (wr.setCell ⟨nb, m, none⟩ (.int .i64 (plus l ns m - sumW l))) nb l.length (nx l ns) := Nums.congr (Nums.set (show Nums wr nb l.length (plus l ns) from HN2.out) _) (fun j hj => by
        show (if j = m then plus l ns m - sumW l else plus l ns j) = nx l ns j
        unfold nx
        rw [HM.out]
        by_cases hjm : j = m
        · subst hjm; rw [if_pos rfl]
        · rw [if_neg hjm, if_neg hjm])
      exact bodyPost_ret (v := .tuple #[.int .i64 (el l m).id, .bool true]) (by simp [results, Try.results11, go_sem]) rfl ⟨nb, l.length, by omega, by rw [HM.out], ⟨RT.kept (show RT wr xb true ver (.slice (some ⟨b, off, none⟩) l.length cl) (.slice (some ⟨nb, 0, none⟩) l.length l.length) from HRT.out) kp hne2, cells_kept (show Cells wr b off l from HCC.out) kp hnb2, hnx, hne, hnb⟩, kall⟩
end Go.Proofs.Ytidekhhelljjdaa
