/- The reference's Turner: its state, Pick at the set that it has. -/
import Derived.Test.YtidekhhelljjdaaLw
namespace Go.Proofs.Ytidekhhelljjdaa
open Go.RowKit

def RT (w : World) (xb : Nat) (hs : Bool) (ver : Int) (lv nv : Value) : Prop := w.heap[xb]? = some (.cells #[.bool hs, .int .i64 ver, lv, nv] 43 (0, 0))
section
variable {w w' : World} {xb : Nat} {hs : Bool} {ver : Int} {lv nv : Value}
theorem RT.lt (h : RT w xb hs ver lv nv) : xb < w.heap.size := lt_of_block h
theorem RT.at (h : RT w xb hs ver lv nv) (i : Nat) : w.cell? ⟨xb, i, none⟩ = (#[Value.bool hs, .int .i64 ver, lv, nv] : Array Value)[i]? := by
  simp [World.cell?, show w.heap[xb]? = _ from h]
theorem RT.free (h : RT w xb hs ver lv nv) (i : Nat) : w.frozen? ⟨xb, i, none⟩ = false := by
  simp [World.frozen?, show w.heap[xb]? = _ from h]
theorem RT.kept {S : Nat → Prop} (h : RT w xb hs ver lv nv) (hk : Kp S w w') (hs' : ¬ S xb) : RT w' xb hs ver lv nv := (hk.block xb h.lt hs').trans h
theorem RT.grown (h : RT w xb hs ver lv nv) (hg : Gn w w') : RT w' xb hs ver lv nv := h.kept (Kp.of_gn (fun _ => False) hg) (fun hh => hh)
theorem RT.facts (h : RT w xb hs ver lv nv) : xb < w.heap.size ∧ (w.cell? ⟨xb, 0, none⟩ = some (.bool hs) ∧ w.cell? ⟨xb, 1, none⟩ = some (.int .i64 ver) ∧ w.cell? ⟨xb, 2, none⟩ = some lv ∧ w.cell? ⟨xb, 3, none⟩ = some nv) :=
  ⟨h.lt, by rw [h.at]; rfl, by rw [h.at]; rfl, by rw [h.at]; rfl, by rw [h.at]; rfl⟩
end
/-- A row of numbers. -/
def Nums (w : World) (nb n : Nat) (ns : Nat → Int) : Prop := nb < w.heap.size ∧ ∀ i, i < n → w.cell? ⟨nb, i, none⟩ = some (.int .i64 (ns i)) ∧ w.frozen? ⟨nb, i, none⟩ = false
theorem Nums.kept {S : Nat → Prop} {w w' : World} {nb n : Nat} {ns : Nat → Int} (h : Nums w nb n ns) (hk : Kp S w w') (hs : ¬ S nb) : Nums w' nb n ns :=
  ⟨by have := hk.size; have := h.1; omega, fun i hi => ⟨hk.cell (h.2 i hi).1 hs, (World.frozen?_of_block (hk.block nb h.1 hs)).trans (h.2 i hi).2⟩⟩
theorem Nums.set {w : World} {nb n : Nat} {ns : Nat → Int} (h : Nums w nb n ns) {i : Nat} (x : Int) : Nums (w.setCell ⟨nb, i, none⟩ (.int .i64 x)) nb n (fun j => if j = i then x else ns j) := by
  have hg : w.grownBy (w.setCell ⟨nb, i, none⟩ (.int .i64 x)) (some nb) := gb_set (gb_refl _ _) _ _
  refine ⟨by have := hg.size; have := h.1; omega, fun j hj => ?_⟩
  have hr := h.2 j hj
  rw [World.frozen?_setCell]
  refine ⟨?_, hr.2⟩
  by_cases e : j = i
  · subst e
    show _ = some (Value.int .i64 (if j = j then x else ns j))
    rw [if_pos rfl]
    exact World.cell?_setCell_same _ _ _ hr.1
  · show _ = some (Value.int .i64 (if j = i then x else ns j))
    rw [if_neg e, World.cell?_setCell_other _ _ _ _ (by intro hh; injection hh with _ h2; exact e h2.symm)]
    exact hr.1
theorem Nums.congr {w : World} {nb n : Nat} {ns ns' : Nat → Int} (h : Nums w nb n ns) (e : ∀ j, j < n → ns j = ns' j) : Nums w nb n ns' := ⟨h.1, fun i hi => by rw [← e i hi]; exact h.2 i hi⟩

def RHas (w : World) (xb nb b off cl cn : Nat) (l : List B) (ns : Nat → Int) (ver : Int) : Prop :=
  RT w xb true ver (.slice (some ⟨b, off, none⟩) l.length cl) (.slice (some ⟨nb, 0, none⟩) l.length cn) ∧ Cells w b off l ∧ Nums w nb l.length ns ∧ nb ≠ xb ∧ nb ≠ b

set_option maxHeartbeats 4000000 in
set_option maxRecDepth 100000 in
theorem rpick_same (xb nb b off cl cn : Nat) (ver : Int) (v : Value) (l : List B) (ns : Nat → Int) (w : World) (h : RHas w xb nb b off cl cn l ns ver) (hlen : 0 < l.length) (ht : Tame l) (hb : Bd l ns) :
    Calls Try.prog 11 #[.pointer (some ⟨xb, 0, none⟩), .int .i64 ver, v] w fun y w' => y = .returned (.tuple #[.int .i64 (el l (best l ns)).id, .bool true]) ∧ RHas w' xb nb b off cl cn l (nx l ns) ver ∧ Kp (fun j => j = nb) w w' := by
  obtain ⟨hRT, hC, hN, hne, hnb⟩ := h
  obtain ⟨tl, x0, x1, x2, x3⟩ := hRT.facts
  have HRT : Hid _ := hRT
  have HC : Hid _ := hC
  have HN : Hid _ := hN
  have HBd : Hid _ := hb
  clear hRT hC hN hb
  have hll := ht.1
  go_enter Try.func11, Try.ntmps11
  go_wp2
  go_loopw [8, 9, 10] (fun a be i wr => ∃ k : Nat, k ≤ l.length ∧ i = .int .i64 k ∧ a = .int .i64 (sumW (l.take k)) ∧ be = .int .i64 (if k = 0 then -1 else (bst (plus l ns) k : Nat)) ∧
    Nums wr nb l.length (fun j => if j < k then plus l ns j else ns j) ∧ Kp (fun j => j = nb) w wr) (fun _ _ i _ => l.length - (intOf i).toNat)
  case atStart => exact ⟨0, by omega, rfl, rfl, rfl, Nums.congr (show Nums w nb l.length ns from HN.out) (fun j _ => by simp), Kp.refl _ _⟩
  case round =>
    obtain ⟨k, hk, rfl, rfl, rfl, hN, hkp⟩ := hrel
    obtain ⟨tl1, y0, y1, y2, y3⟩ := RT.facts (RT.kept (show RT w xb true ver (.slice (some ⟨b, off, none⟩) l.length cl) (.slice (some ⟨nb, 0, none⟩) l.length cn) from HRT.out) hkp (fun e => hne e.symm))
    have hcs := cells_kept (show Cells w b off l from HC.out) hkp (fun e => hnb e.symm)
    by_cases hlt : k < l.length
    · obtain ⟨c0, c1, c2, c3, c4, c5⟩ := hcs.2 k hlt
      have hbl := hcs.1
      obtain ⟨n0, n1⟩ := hN.2 k hlt
      replace n0 : wr.cell? ⟨nb, k, none⟩ = some (.int .i64 (ns k)) := by simpa using n0
      have hnl := hN.1
      have hki : (k : Int) < (l.length : Int) := by omega
      have hnk := HBd.out k hlt
      have hwk := ht.2 _ (el_mem hlt)
      have hs := ht.sum k hk
      have hw : IntKind.i64.wrap (ns k + (el l k).wt) = plus l ns k := by unfold plus; go_ints; trivial
      have HN1 : Hid _ := hN
      have HK1 : Hid _ := hkp
      clear hN hkp hcs
      by_cases k0 : k = 0
      · subst k0
        simp only [Nat.zero_mul, Nat.add_zero] at c0 c1 c2 c3 c4 c5
        have hki0 : (0 : Int) < (l.length : Int) := by omega
        have e0 : sumW (l.take 0) = 0 := by simp [sumW]
        rw [e0]
        clear hs
        go_wp2
        refine wp_region_gr (by kernel_rfl) (by kernel_rfl) ?_
        repeat (go_big_quiet_step (fail))
        refine wpQuiet_nil ?_
        rintro _ ⟨q4, rfl⟩
        go_wp2
        refine wp_region_gr (by kernel_rfl) (by kernel_rfl) ?_
        repeat (go_big_quiet_step (fail))
        refine wpQuiet_nil ?_
        rintro _ ⟨q5, rfl⟩
        go_wp2
        go_roundw
        case rel =>
          refine ⟨0 + 1, by omega, by go_num, by (first | (rw [sum_take' hlt, e0]; done) | (rw [sum_take' hlt, e0]; go_num)), by simp [bst], Nums.congr (Nums.kept (Nums.set (show Nums wr nb l.length _ from HN1.out) (plus l ns 0)) (Kp.of_gn (fun _ => False) (by with_reducible (repeat (first | exact Gn.refl _ | refine Gn.gr ?_ _ | refine Gn.alloc ?_ _ | refine Gn.drew ?_)))) (fun e => e)) (fun j hj => ?_), ((show Kp (fun j => j = nb) w wr from HK1.out).set nb 0 _ rfl).gn (by with_reducible (repeat (first | exact Gn.refl _ | refine Gn.gr ?_ _ | refine Gn.alloc ?_ _ | refine Gn.drew ?_)))⟩
          show (if j = 0 then plus l ns 0 else if j < 0 then plus l ns j else ns j) = if j < 0 + 1 then plus l ns j else ns j
          by_cases hjk : j = 0
          · rw [if_pos hjk, if_pos (show j < 0 + 1 by omega), hjk]
          · rw [if_neg hjk]
            by_cases h2 : j < 0
            · rw [if_pos h2, if_pos (show j < 0 + 1 by omega)]
            · rw [if_neg h2, if_neg (show ¬ j < 0 + 1 by omega)]
        case measure => simp [intOf]; omega
      · have hmk := bst_lt (plus l ns) (show 0 < k by omega)
        obtain ⟨m, hm⟩ : ∃ m, bst (plus l ns) k = m := ⟨_, rfl⟩
        rw [hm] at hmk
        rw [if_neg k0, hm]
        obtain ⟨p0, p1⟩ := (show Nums wr nb l.length (fun j => if j < k then plus l ns j else ns j) from HN1.out).2 m (by omega)
        replace p0 : wr.cell? ⟨nb, m, none⟩ = some (.int .i64 (plus l ns m)) := by simpa [hmk] using p0
        have hmn : m ≠ k := by omega
        have hmi : (m : Int) < (l.length : Int) := by omega
        have dm : decide ((m : Int) < 0) = false := by rw [decide_eq_false_iff_not]; omega
        have hne2 : xb ≠ nb := fun e => hne e.symm
        have HM : Hid _ := hm
        clear hm
        by_cases hgt : plus l ns m < plus l ns k
        · have dg : decide (plus l ns m < plus l ns k) = true := by rw [decide_eq_true_eq]; exact hgt
          go_wp2
          refine wp_region_gr (by kernel_rfl) (by kernel_rfl) ?_
          repeat (go_big_quiet_step (fail))
          refine wpQuiet_nil ?_
          rintro _ ⟨q4, rfl⟩
          go_wp2
          refine wp_region_gr (by kernel_rfl) (by kernel_rfl) ?_
          repeat (go_big_quiet_step (fail))
          refine wpQuiet_nil ?_
          rintro _ ⟨q5, rfl⟩
          go_wp2
          go_roundw
          case rel =>
            refine ⟨k + 1, by omega, by go_num, by rw [sum_take' hlt], by rw [if_neg (by omega), bst, HM.out, if_pos hgt], Nums.congr (Nums.kept (Nums.set (show Nums wr nb l.length _ from HN1.out) (plus l ns k)) (Kp.of_gn (fun _ => False) (by with_reducible (repeat (first | exact Gn.refl _ | refine Gn.gr ?_ _ | refine Gn.alloc ?_ _ | refine Gn.drew ?_)))) (fun e => e)) (fun j hj => ?_), ((show Kp (fun j => j = nb) w wr from HK1.out).set nb k _ rfl).gn (by with_reducible (repeat (first | exact Gn.refl _ | refine Gn.gr ?_ _ | refine Gn.alloc ?_ _ | refine Gn.drew ?_)))⟩
            show (if j = k then plus l ns k else if j < k then plus l ns j else ns j) = if j < k + 1 then plus l ns j else ns j
            by_cases hjk : j = k
            · rw [if_pos hjk, if_pos (show j < k + 1 by omega), hjk]
            · rw [if_neg hjk]
              by_cases h2 : j < k
              · rw [if_pos h2, if_pos (show j < k + 1 by omega)]
              · rw [if_neg h2, if_neg (show ¬ j < k + 1 by omega)]
          case measure => simp [intOf]; omega
        · have dg : decide (plus l ns m < plus l ns k) = false := by rw [decide_eq_false_iff_not]; exact hgt
          go_wp2
          refine wp_region_gr (by kernel_rfl) (by kernel_rfl) ?_
          repeat (go_big_quiet_step (fail))
          refine wpQuiet_nil ?_
          rintro _ ⟨q4, rfl⟩
          go_wp2
          refine wp_region_gr (by kernel_rfl) (by kernel_rfl) ?_
          repeat (go_big_quiet_step (fail))
          refine wpQuiet_nil ?_
          rintro _ ⟨q5, rfl⟩
          go_wp2
          go_roundw
          case rel =>
            refine ⟨k + 1, by omega, by go_num, by rw [sum_take' hlt], by rw [if_neg (by omega), bst, HM.out, if_neg (by omega)], Nums.congr (Nums.kept (Nums.set (show Nums wr nb l.length _ from HN1.out) (plus l ns k)) (Kp.of_gn (fun _ => False) (by with_reducible (repeat (first | exact Gn.refl _ | refine Gn.gr ?_ _ | refine Gn.alloc ?_ _ | refine Gn.drew ?_)))) (fun e => e)) (fun j hj => ?_), ((show Kp (fun j => j = nb) w wr from HK1.out).set nb k _ rfl).gn (by with_reducible (repeat (first | exact Gn.refl _ | refine Gn.gr ?_ _ | refine Gn.alloc ?_ _ | refine Gn.drew ?_)))⟩
            show (if j = k then plus l ns k else if j < k then plus l ns j else ns j) = if j < k + 1 then plus l ns j else ns j
            by_cases hjk : j = k
            · rw [if_pos hjk, if_pos (show j < k + 1 by omega), hjk]
            · rw [if_neg hjk]
              by_cases h2 : j < k
              · rw [if_pos h2, if_pos (show j < k + 1 by omega)]
              · rw [if_neg h2, if_neg (show ¬ j < k + 1 by omega)]
          case measure => simp [intOf]; omega
    · have hge : k = l.length := by omega
      subst hge
      have hN2 := hN.congr (ns' := plus l ns) (fun j hj => by rw [if_pos hj])
      have hml := best_lt hlen ns
      obtain ⟨m, hm⟩ : ∃ m, best l ns = m := ⟨_, rfl⟩
      have hm2 : bst (plus l ns) l.length = m := hm
      rw [hm] at hml
      rw [if_neg (by omega), hm2, List.take_length]
      obtain ⟨p0, p1⟩ := hN2.2 m hml
      obtain ⟨c0, _⟩ := hcs.2 m hml
      have hbl := hcs.1
      have hnl := hN2.1
      have hsum := ht.sum l.length (Nat.le_refl _)
      rw [List.take_length] at hsum
      have hbm := HBd.out m hml
      have hwm := ht.2 _ (el_mem hml)
      have hpm : plus l ns m = ns m + (el l m).wt := rfl
      have hw : IntKind.i64.wrap (plus l ns m - sumW l) = plus l ns m - sumW l := by go_ints; trivial
      have hmi : (m : Int) < (l.length : Int) := by omega
      have dm : decide ((m : Int) < 0) = false := by rw [decide_eq_false_iff_not]; omega
      have hne2 : xb ≠ nb := fun e => hne e.symm
      have hnb2 : b ≠ nb := fun e => hnb e.symm
      have HM : Hid _ := hm
      have HN2 : Hid _ := hN2
      have HK1 : Hid _ := hkp
      have HC2 : Hid _ := hcs
      clear hm hm2 hN hN2 hkp hcs hpm
      go_wp2
      have kp : Kp (fun j => j = nb) wr (wr.setCell ⟨nb, m, none⟩ (.int .i64 (plus l ns m - sumW l))) := (Kp.refl (fun j => j = nb) wr).set nb m _ rfl
      have kall := (show Kp (fun j => j = nb) w wr from HK1.out).trans kp
      have hnx : Nums (wr.setCell ⟨nb, m, none⟩ (.int .i64 (plus l ns m - sumW l))) nb l.length (nx l ns) := Nums.congr (Nums.set (show Nums wr nb l.length (plus l ns) from HN2.out) _) (fun j hj => by
        show (if j = m then plus l ns m - sumW l else plus l ns j) = nx l ns j
        unfold nx
        rw [HM.out]
        by_cases hjm : j = m
        · subst hjm; rw [if_pos rfl]
        · rw [if_neg hjm, if_neg hjm])
      exact bodyPost_ret (v := .tuple #[.int .i64 (el l m).id, .bool true]) (by simp [results, Try.results11, go_sem]) rfl ⟨by rw [HM.out], ⟨RT.kept (show RT w xb true ver (.slice (some ⟨b, off, none⟩) l.length cl) (.slice (some ⟨nb, 0, none⟩) l.length cn) from HRT.out) kall hne2, cells_kept (show Cells w b off l from HC.out) kall hnb2, hnx, hne, hnb⟩, kall⟩
end Go.Proofs.Ytidekhhelljjdaa
