/- BitsetPlays' walk, where the number is not negative. -/
import Derived.Test.YtoaefmnjndklkaaDoorPK47
namespace Go.Proofs.YtoaefmnjndklkaaDoor
open Go.ChangeShapes Go.WideShapes Go.RowKit Go.Deep
set_option maxHeartbeats 16000000 in
set_option maxRecDepth 100000 in
theorem plays_pos (N : Nat) (v v' : Value) (l l' : List (Int × Int)) (n : Int) (w : World) (hT : TabAt 0 Lib.deBruijn64tab w) (hv : PA w v l) (hv' : PA w v' l') (hn : -9223372036854775808 ≤ n ∧ n ≤ 9223372036854775807)
    (hlen : l.length ≤ 40) (hlen' : l'.length ≤ 40) (hN : N ≤ 4096) (hs : 0 ≤ n) :
    Calls Tryd.prog 4 #[.int .i64 (N : Int), v, v', .int .i64 n] w fun e w' => e = .returned (.bool true) ∧ Gn w w' := by
  obtain ⟨o, c, rfl⟩ := hv.shape
  obtain ⟨o', c', rfl⟩ := hv'.shape
  have HT : Hid (TabAt 0 Lib.deBruijn64tab w) := hT
  have HV : Hid (PA w (.slice o l.length c) l) := hv
  have HV' : Hid (PA w (.slice o' l'.length c') l') := hv'
  clear hT hv hv'
  have HSG : Hid (0 ≤ n) := hs
  clear hs
  have hN0 : ¬ (N : Int) < 0 := by omega
  have hN1 : ¬ (4096 : Int) < (N : Int) := by omega
  go_enter Tryd.func4, Tryd.ntmps4
  go_upto_region 6 with (go_at_call 16; refine Calls.mono (grown_any w N _ l HV.out hlen hN) ?_; rintro _ w1 ⟨sb, g, xb, rfl, h1⟩; have HP1 : Hid (Pr w w1 sb g xb N (gr N l l.length) (gr N l l.length)) := h1; clear h1)
  go_upto_region 7 with (go_at_call 16; refine Calls.mono (grown_any w1 N _ l' (HV'.out.gn HP1.out.gnw) hlen' hN) ?_; rintro _ w2 ⟨tb, tg, yb, rfl, h1⟩; have HP2 : Hid (Pr w1 w2 tb tg yb N (gr N l' l'.length) (gr N l' l'.length)) := h1; clear h1)
  generalize gr N l l.length = m1 at *
  generalize gr N l' l'.length = m2 at *
  have HG2 : Hid (Gn w w2) := HP1.out.gnw.trans HP2.out.gnw
  have HS : Hid (ST w2 sb g N m1) := HP1.out.1.gn HP2.out.gnw
  have HX : Hid (RS w2 xb (fun k => k ≠ g ∧ k ≠ sb) N (nums m1 N)) := HP1.out.2.1.gn HP2.out.gnw
  have HTT : Hid (ST w2 tb tg N m2) := HP2.out.1
  have HY : Hid (RS w2 yb (fun k => k ≠ tg ∧ k ≠ tb) N (nums m2 N)) := HP2.out.2.1
  have HB1 : Hid (∀ j, m1 j = true → j < N) := HP1.out.2.2.2.2.1
  clear HP1 HP2
  have hln1 := nums_len m1 N
  have hln2 := nums_len m2 N
  obtain ⟨xv, hxv, xo, xc, rfl⟩ := HX.out.row
  obtain ⟨yv, hyv, yo, yc, rfl⟩ := HY.out.row
  have HXV : Hid (∀ w', Gn w2 w' → w'.cell? ⟨xb, 1, none⟩ = some (.slice xo (nums m1 N).length xc) ∧ IR w' 0 (.slice xo (nums m1 N).length xc) (nums m1 N)) := hxv
  have HYV : Hid (∀ w', Gn w2 w' → w'.cell? ⟨yb, 1, none⟩ = some (.slice yo (nums m2 N).length yc) ∧ IR w' 0 (.slice yo (nums m2 N).length yc) (nums m2 N)) := hyv
  have hxl := HX.out.lt
  have hyl := HY.out.lt
  clear hxv hyv
  have cx := (HXV.out w2 (Gn.refl _)).1
  go_upto_region 11 with (at_builtin; refine wpList_append_all rfl _ _ rfl _ (nums m1 N) rfl rfl (HXV.out w2 (Gn.refl _)).2 (by omega) ?_; intro av w3 h1 h2; have HA3 : Hid (IR w3 w2.heap.size av (nums m1 N)) := h1; have HG3 : Hid (Gn w2 w3) := h2; clear h1 h2)
  obtain ⟨ao, ac, rfl⟩ := HA3.out.shape
  have HZ0 : Hid (RS (w3.alloc (.cells #[.int .i64 (N : Int), .slice ao (nums m1 N).length ac] 38)) w3.heap.size (fun _ => True) N (nums m1 N)) := ⟨_, heap_alloc_new _ _, (HA3.out.lower (Nat.zero_le _)).gn ((Gn.refl _).alloc _), fun _ _ => trivial⟩
  have HG4 : Hid (Gn w2 (w3.alloc (.cells #[.int .i64 (N : Int), .slice ao (nums m1 N).length ac] 38))) := HG3.out.alloc _
  have hz3 : w2.heap.size ≤ w3.heap.size := HG3.out.size
  clear HA3 HG3 cx
  go_upto_region 12 with fail
  generalize w3.heap.size = zb at *
  generalize w3.alloc _ = w4 at *
  go_wp2
  go_loopw [17] (fun i wr => ∃ k : Nat, k ≤ (nums m2 N).length ∧ i = .int .i64 k ∧ (∃ Q, RS wr zb Q N (nums (zz m1 N (nums m2 N) k) N)) ∧ Gn w2 wr) (fun i _ => (nums m2 N).length - (intOf i).toNat)
  case atStart => exact ⟨0, by omega, rfl, ⟨_, by rw [zz_zero]; exact HZ0.out⟩, HG4.out⟩
  case round =>
    clear HZ0 HG4
    obtain ⟨k, hk, rfl, ⟨Q, hQ⟩, hg⟩ := hrel
    have HQ : Hid (RS wr zb Q N (nums (zz m1 N (nums m2 N) k) N)) := hQ
    have HG : Hid (Gn w2 wr) := hg
    have hgs := hg.size
    have hyr : yb < wr.heap.size := by omega
    have hxr : xb < wr.heap.size := by omega
    have cy := (HYV.out wr hg).1
    clear hQ hg
    by_cases hkl : k < (nums m2 N).length
    · obtain ⟨yg, ycap, he, hyg, ck⟩ := (HYV.out wr HG.out).2.facts hkl
      cases he
      have hki : (k : Int) < ((nums m2 N).length : Int) := by omega
      have HZZ : Hid (zz m1 N (nums m2 N) (k + 1) = pmm (zz m1 N (nums m2 N) k) N (il (nums m2 N) k)) := rfl
      generalize il (nums m2 N) k = x at *
      go_wp2_with (go_at_call 17; refine Calls.mono (rputp_any wr zb Q N _ x HQ.out (zz_bound HB1.out) hN) ?_; rintro _ w5 ⟨rfl, ⟨Q5, h1, _⟩, h2⟩; have HQ5 : Hid (RS w5 zb Q5 N (nums (pmm (zz m1 N (nums m2 N) k) N x) N)) := h1; have HG5 : Hid (Gn w2 w5) := ((Kp.of_gn (fun j => w2.heap.size ≤ j) HG.out).trans (h2.mono (fun j _ e => (by subst e; exact hz3)))).to_gn (fun j e => e); clear h1 h2)
      go_roundw
      case rel => exact ⟨k + 1, by omega, by go_num, ⟨Q5, by rw [HZZ.out]; exact HQ5.out⟩, HG5.out⟩
      case measure => simp [intOf]; omega
    · obtain rfl : k = (nums m2 N).length := by omega
      have HZE : Hid (nums (zz m1 N (nums m2 N) (nums m2 N).length) N = nums (mb29 m1 m2) N) := zz_end
      rw [HZE.out] at HQ
      obtain ⟨wo', rfl⟩ : ∃ wo' : World, wo' = wr := ⟨_, rfl⟩
      go_upto_region 17 with (first
        | (go_at_call 14; refine Calls.mono (less_ok w6 sb g tb tg N m1 m2 (HS.out.gn (HG.out.trans (HG5.out.trans HG6.out))) (HTT.out.gn (HG.out.trans (HG5.out.trans HG6.out))) hN) ?_; rintro _ w7 ⟨wb, rfl, h1, h2, wg, h3, h4⟩; have HW7 : Hid (ST w7 wb wg N (mb31 m1 m2)) := h3; have HG7 : Hid (Gn w6 w7) := h2; clear h1 h2 h3 h4)
        | (go_at_call 13; refine Calls.mono (meet_ok w5 sb g tb tg N m1 m2 (HS.out.gn (HG.out.trans HG5.out)) (HTT.out.gn (HG.out.trans HG5.out)) hN) ?_; rintro _ w6 ⟨vb, rfl, h1, h2, vg, h3, h4⟩; have HV6 : Hid (ST w6 vb vg N (mb30 m1 m2)) := h3; have HG6 : Hid (Gn w5 w6) := h2; clear h1 h2 h3 h4)
        | (go_at_call 12; refine Calls.mono (union_ok _ sb g tb tg N m1 m2 (HS.out.gn HG.out) (HTT.out.gn HG.out) hN) ?_; rintro _ w5 ⟨ub, rfl, h1, h2, ug, h3, h4⟩; have HU5 : Hid (ST w5 ub ug N (mb29 m1 m2)) := h3; have HG5 : Hid (Gn wo' w5) := h2; clear h1 h2 h3 h4))
      have HG27 : Hid (Gn w2 w7) := HG.out.trans (HG5.out.trans (HG6.out.trans HG7.out))
      have HZ7 : Hid (RS w7 zb Q N (nums (mb29 m1 m2) N)) := HQ.out.gn (HG5.out.trans (HG6.out.trans HG7.out))
      have HU7 : Hid (ST w7 ub ug N (mb29 m1 m2)) := HU5.out.gn (HG6.out.trans HG7.out)
      have HV7 : Hid (ST w7 vb vg N (mb30 m1 m2)) := HV6.out.gn HG7.out
      have HS7 : Hid (ST w7 sb g N m1) := HS.out.gn HG27.out
      have HX7 : Hid (RS w7 xb (fun k => k ≠ g ∧ k ≠ sb) N (nums m1 N)) := HX.out.gn HG27.out
      have HT7 : Hid (TabAt 0 Lib.deBruijn64tab w7) := tab_gn HT.out (HG2.out.trans HG27.out)
      have HXW : Hid (∀ w', Gn w7 w' → w'.cell? ⟨xb, 1, none⟩ = some (.slice xo (nums m1 N).length xc) ∧ IR w' 0 (.slice xo (nums m1 N).length xc) (nums m1 N)) := fun w' hg => HXV.out w' (HG27.out.trans hg)
      have HYW : Hid (∀ w', Gn w7 w' → w'.cell? ⟨yb, 1, none⟩ = some (.slice yo (nums m2 N).length yc) ∧ IR w' 0 (.slice yo (nums m2 N).length yc) (nums m2 N)) := fun w' hg => HYV.out w' (HG27.out.trans hg)
      have cx := (HXW.out w7 (Gn.refl _)).1
      have cy7 := (HYW.out w7 (Gn.refl _)).1
      have hx7 : xb < w7.heap.size := HX7.out.lt
      have hy7 : yb < w7.heap.size := by have := HG27.out.size; omega
      have HGW : Hid (Gn w w7) := HG2.out.trans HG27.out
      clear HQ HU5 HV6 HS HX HTT HY HXV HYV HG5 HG6 HG7 HG HG27 HG2 cy hyr hxr hgs hyl hxl
      refine wp_region_z 99 10 (by kernel_rfl) rfl ?_
      refine wpMix_pick 0 (by kernel_rfl) rfl (by kernel_rfl) (by with_reducible (repeat (first | exact Gn.refl _ | refine Gn.gr ?_ _ | refine Gn.alloc ?_ _ | refine Gn.drew ?_))) (by kernel_rfl) (fun K hK => ?_); go_simp; first | (refine hK _ ?_; clear hK K) | (apply Exists.intro; refine ⟨fun _ => ?_, hK _ ?_⟩; first | (fail); clear hK K)
      refine wpMix_pick 1 (by kernel_rfl) rfl (by kernel_rfl) (by with_reducible (repeat (first | exact Gn.refl _ | refine Gn.gr ?_ _ | refine Gn.alloc ?_ _ | refine Gn.drew ?_))) (by kernel_rfl) (fun K hK => ?_); go_simp; first | (refine hK _ ?_; clear hK K) | (apply Exists.intro; refine ⟨fun _ => ?_, hK _ ?_⟩; first | (fail); clear hK K)
      refine wpMix_pick 2 (by kernel_rfl) rfl (by kernel_rfl) (by with_reducible (repeat (first | exact Gn.refl _ | refine Gn.gr ?_ _ | refine Gn.alloc ?_ _ | refine Gn.drew ?_))) (by kernel_rfl) (fun K hK => ?_); go_simp; first | (refine hK _ ?_; clear hK K) | (apply Exists.intro; refine ⟨fun _ => ?_, hK _ ?_⟩; first | (fail); clear hK K)
      refine wpMix_pick 3 (by kernel_rfl) rfl (by kernel_rfl) (by with_reducible (repeat (first | exact Gn.refl _ | refine Gn.gr ?_ _ | refine Gn.alloc ?_ _ | refine Gn.drew ?_))) (by kernel_rfl) (fun K hK => ?_); go_simp; first | (refine hK _ ?_; clear hK K) | (apply Exists.intro; refine ⟨fun _ => ?_, hK _ ?_⟩; first | (fail); clear hK K)
      refine wpMix_pick 4 (by kernel_rfl) rfl (by kernel_rfl) (by with_reducible (repeat (first | exact Gn.refl _ | refine Gn.gr ?_ _ | refine Gn.alloc ?_ _ | refine Gn.drew ?_))) (by kernel_rfl) (fun K hK => ?_); go_simp; first | (refine hK _ ?_; clear hK K) | (apply Exists.intro; refine ⟨fun _ => ?_, hK _ ?_⟩; first | (fail); clear hK K)
      refine wpMix_pick 5 (by kernel_rfl) rfl (by kernel_rfl) (by with_reducible (repeat (first | exact Gn.refl _ | refine Gn.gr ?_ _ | refine Gn.alloc ?_ _ | refine Gn.drew ?_))) (by kernel_rfl) (fun K hK => ?_); go_simp; first | (refine hK _ ?_; clear hK K) | (apply Exists.intro; refine ⟨fun _ => ?_, hK _ ?_⟩; first | (fail); clear hK K)
      refine wpMix_pick 6 (by kernel_rfl) rfl (by kernel_rfl) (by with_reducible (repeat (first | exact Gn.refl _ | refine Gn.gr ?_ _ | refine Gn.alloc ?_ _ | refine Gn.drew ?_))) (by kernel_rfl) (fun K hK => ?_); go_simp; first | (refine hK _ ?_; clear hK K) | (apply Exists.intro; refine ⟨fun _ => ?_, hK _ ?_⟩; first | (fail); clear hK K)
      refine wpMix_pick 7 (by kernel_rfl) rfl (by kernel_rfl) (by with_reducible (repeat (first | exact Gn.refl _ | refine Gn.gr ?_ _ | refine Gn.alloc ?_ _ | refine Gn.drew ?_))) (by kernel_rfl) (fun K hK => ?_); go_simp; first | (refine hK _ ?_; clear hK K) | (apply Exists.intro; refine ⟨fun _ => ?_, hK _ ?_⟩; first | (fail); clear hK K)
      refine wpMix_one (i := 8) (by kernel_rfl) rfl ?_
      intro p8
      go_wp2_with (go_at_call 18; refine Calls.mono (rwithout_any _ 0 0 _ _ (nums m1 N) (nums m2 N) (HXW.out _ ((Gn.refl _).gr _)).2 (HYW.out _ ((Gn.refl _).gr _)).2 (by omega) (by omega)) ?_; rintro _ w8 ⟨rv, rfl, h1, h2⟩; rw [wo_nums] at h1; have HR8 : Hid (IR w8 0 rv (nums (mb31 m1 m2) N)) := h1.lower (Nat.zero_le _); have HG8 : Hid (Gn w7 w8) := ((Gn.refl _).gr _).trans h2; clear h1 h2)
      refine ⟨HG8.out, ?_⟩
      refine wpMix_one (i := 9) (by kernel_rfl) rfl ?_
      intro p9
      go_wp2
      refine ⟨HG8.out.gr _, ?_⟩
      refine wpMix_done (by kernel_rfl) ?_
      intro pz
      generalize hW : World.gr _ _ = w9 at *
      have HG9 : Hid (Gn w7 w9) := hidIt (by rw [← hW]; exact (HG8.out.gr _).gr _)
      have HG89 : Hid (Gn w8 w9) := hidIt (by rw [← hW]; exact ((Gn.refl _).gr _).gr _)
      clear hW
      obtain ⟨ro, rc, rfl⟩ := HR8.out.shape
      obtain ⟨zv, hzv, zo, zc, rfl⟩ := HZ7.out.row
      have HZW : Hid (∀ w', Gn w9 w' → w'.cell? ⟨zb, 1, none⟩ = some (.slice zo (nums (mb29 m1 m2) N).length zc) ∧ IR w' 0 (.slice zo (nums (mb29 m1 m2) N).length zc) (nums (mb29 m1 m2) N)) := fun w' hg => hzv w' (HG9.out.trans hg)
      have HX9 : Hid (∀ w', Gn w9 w' → w'.cell? ⟨xb, 1, none⟩ = some (.slice xo (nums m1 N).length xc) ∧ IR w' 0 (.slice xo (nums m1 N).length xc) (nums m1 N)) := fun w' hg => HXW.out w' (HG9.out.trans hg)
      have HR9 : Hid (IR w9 0 (.slice ro (nums (mb31 m1 m2) N).length rc) (nums (mb31 m1 m2) N)) := HR8.out.gn HG89.out
      have HS9 : Hid (ST w9 sb g N m1) := HS7.out.gn HG9.out
      have HU9 : Hid (ST w9 ub ug N (mb29 m1 m2)) := HU7.out.gn HG9.out
      have HV9 : Hid (ST w9 vb vg N (mb30 m1 m2)) := HV7.out.gn HG9.out
      have HW9 : Hid (ST w9 wb wg N (mb31 m1 m2)) := HW7.out.gn HG9.out
      have HT9 : Hid (TabAt 0 Lib.deBruijn64tab w9) := tab_gn HT7.out HG9.out
      have HRS : Hid (RS w9 xb (fun k => k ≠ g ∧ k ≠ sb) N (nums m1 N)) := HX7.out.gn HG9.out
      have hz7 := HZ7.out.lt
      have hgs9 := HG9.out.size
      have hx9 : xb < w9.heap.size := by omega
      have hz9 : zb < w9.heap.size := by omega
      have cx9 := (HX9.out w9 (Gn.refl _)).1
      have cz9 := (HZW.out w9 (Gn.refl _)).1
      have HGW9 : Hid (Gn w w9) := HGW.out.trans HG9.out
      have hln3 := nums_len (mb29 m1 m2) N
      have hln4 := nums_len (mb30 m1 m2) N
      have hln5 := nums_len (mb31 m1 m2) N
      clear hzv HG9 HG89 HR8 HG8 HZ7 HXW HYW HS7 HU7 HV7 HW7 HT7 HX7 HGW hz7 hgs9 cx cy7 hx7 hy7
      go_wp2
      have hs := HSG.out
      have HLen : Hid (∀ w', Gn w9 w' → Calls Tryd.prog 15 #[.pointer (some ⟨sb, 0, none⟩)] w' fun e w2 => e = .returned (.int .i64 ((nums m1 N).length : Int)) ∧ w' = w2) := fun w' hg => len_any2 w' sb g N m1 (HS9.out.gn hg) hN
      have HNx : Hid (∀ w', Gn w9 w' → Calls Tryd.prog 11 #[.pointer (some ⟨sb, 0, none⟩), .int .i64 n] w' fun e w2 => e = .returned (.int .i64 (nx m1 N n.toNat)) ∧ w' = w2) := fun w' hg => next_any w' sb g N m1 n (HS9.out.gn hg) hN (tab_gn HT9.out hg) hn.2
      have HRNx : Hid (∀ w', Gn w9 w' → Calls Tryd.prog 21 #[.pointer (some ⟨xb, 0, none⟩), .int .i64 n] w' fun e w2 => e = .returned (.int .i64 (nx m1 N n.toNat)) ∧ w' = w2) := fun w' hg => rnext2 w' xb _ N m1 n (HRS.out.gn hg) hN
      have HRk : Hid (∀ w', Gn w9 w' → Calls Tryd.prog 10 #[.pointer (some ⟨sb, 0, none⟩), .int .i64 n] w' fun e w2 => e = .returned (.int .i64 (below m1 N n)) ∧ w' = w2) := fun w' hg => rank_any w' sb g N m1 n (HS9.out.gn hg) hN
      have HRRk : Hid (∀ w', Gn w9 w' → Calls Tryd.prog 22 #[.pointer (some ⟨xb, 0, none⟩), .int .i64 n] w' fun e w2 => e = .returned (.int .i64 (below m1 N n)) ∧ w' = w2) := fun w' hg => rrank2 w' xb _ N m1 n (HRS.out.gn hg) hN
      have HNt : Hid (∀ w', Gn w9 w' → Calls Tryd.prog 9 #[.pointer (some ⟨sb, 0, none⟩), .int .i64 n] w' fun e w2 => e = .returned (.int .i64 (atI (nums m1 N) n)) ∧ w' = w2) := fun w' hg => nth2 w' sb g N m1 n (HS9.out.gn hg) hN (tab_gn HT9.out hg) hn.2
      have HRNt : Hid (∀ w', Gn w9 w' → Calls Tryd.prog 23 #[.pointer (some ⟨xb, 0, none⟩), .int .i64 n] w' fun e w2 => e = .returned (.int .i64 (atI (nums m1 N) n)) ∧ w' = w2) := fun w' hg => rnth2 w' xb _ N m1 n (HRS.out.gn hg) hN
      have HAw : Hid (∀ w', Gn w9 w' → Calls Tryd.prog 5 #[] w' fun e w2 => e = .returned (.bool true) ∧ Gn w' w2) := fun w' hg => awake_any w' (tab_gn HT9.out hg)
      have HHs : Hid (∀ w', Gn w9 w' → Calls Tryd.prog 8 #[.pointer (some ⟨sb, 0, none⟩), .int .i64 n] w' fun e w2 => e = .returned (.bool (nx m1 N n.toNat == n)) ∧ w' = w2) := fun w' hg => has_pos w' sb g N m1 n (HS9.out.gn hg) hN HB1.out hs
      generalize nx m1 N n.toNat = q at *
      generalize below m1 N n = bl at *
      generalize atI (nums m1 N) n = an at *
      have hdiv : (N : Int).tdiv 2 = ((N / 2 : Nat) : Int) := Int.ofNat_tdiv N 2
      have hwr : IntKind.i64.wrap ((N / 2 : Nat) : Int) = ((N / 2 : Nat) : Int) := IntWalk.i64_in _ (by omega)
      obtain ⟨M, hM⟩ : ∃ M, M = N / 2 := ⟨_, rfl⟩
      rw [← hM] at hdiv hwr
      have HH : Hid (M = N / 2) := hM
      clear hM
      refine wp_region_z 999 102 (by kernel_rfl) rfl ?_
      refine wpMix_pick 0 (by decide +kernel) rfl (by decide +kernel) (Gn.refl _) (by decide +kernel) (fun K hK => ?_); go_simp; first | (refine hK _ ?_; clear hK K) | (apply Exists.intro; refine ⟨fun _ => ?_, hK _ ?_⟩; first | (fail); clear hK K)
      refine wpMix_pick 2 (by decide +kernel) rfl (by decide +kernel) (Gn.refl _) (by decide +kernel) (fun K hK => ?_); go_simp; first | (refine hK _ ?_; clear hK K) | (apply Exists.intro; refine ⟨fun _ => ?_, hK _ ?_⟩; first | (fail); clear hK K)
      refine wpMix_pick 3 (by decide +kernel) rfl (by decide +kernel) (Gn.refl _) (by decide +kernel) (fun K hK => ?_); go_simp; first | (refine hK _ ?_; clear hK K) | (apply Exists.intro; refine ⟨fun _ => ?_, hK _ ?_⟩; first | (fail); clear hK K)
      refine wpMix_pick 4 (by decide +kernel) rfl (by decide +kernel) (Gn.refl _) (by decide +kernel) (fun K hK => ?_); go_simp; first | (refine hK _ ?_; clear hK K) | (apply Exists.intro; refine ⟨fun _ => ?_, hK _ ?_⟩; first | (fail); clear hK K)
      refine wpMix_pick 5 (by decide +kernel) rfl (by decide +kernel) (Gn.refl _) (by decide +kernel) (fun K hK => ?_); go_simp; first | (refine hK _ ?_; clear hK K) | (apply Exists.intro; refine ⟨fun _ => ?_, hK _ ?_⟩; first | (fail); clear hK K)
      refine wpMix_one (i := 1) (by decide +kernel) rfl ?_
      intro q1
      go_wp2_with (go_at_call 20; refine Calls.mono (list_any2 _ sb g N m1 (HS9.out.gn ((Gn.refl _).gr _)) hN (tab_gn HT9.out ((Gn.refl _).gr _))) ?_; rintro _ w10 ⟨lv10, rfl, h1, h2⟩; have HL10 : Hid (IR w10 0 lv10 (nums m1 N)) := h1.lower (Nat.zero_le _); have HG10 : Hid (Gn w9 w10) := Gn.trans ((Gn.refl _).gr _) h2; clear h1 h2)
      refine ⟨HG10.out, ?_⟩
      refine wpMix_one (i := 6) (by decide +kernel) rfl ?_
      intro q6
      go_wp2_with (go_at_call 19; refine Calls.mono (rsame_yes _ 0 0 _ _ (nums m1 N) (HL10.out.gn ((Gn.refl _).gr _)) ((HX9.out _ (HG10.out.gr _)).2) (by omega)) ?_; rintro _ w11 ⟨rfl, h2⟩; have HG11 : Hid (Gn w9 w11) := Gn.trans (HG10.out.gr _) h2; clear h2)
      refine ⟨HG11.out, ?_⟩
      refine wpMix_pick 7 (by decide +kernel) rfl (by decide +kernel) (HG11.out) (by decide +kernel) (fun K hK => ?_); go_simp; first | (refine hK _ ?_; clear hK K) | (apply Exists.intro; refine ⟨fun _ => ?_, hK _ ?_⟩; first | (fail); clear hK K)
      refine wpMix_pick 8 (by decide +kernel) rfl (by decide +kernel) (HG11.out) (by decide +kernel) (fun K hK => ?_); go_simp; first | (refine hK _ ?_; clear hK K) | (apply Exists.intro; refine ⟨fun _ => ?_, hK _ ?_⟩; first | (fail); clear hK K)
      refine wpMix_pick 9 (by decide +kernel) rfl (by decide +kernel) (HG11.out) (by decide +kernel) (fun K hK => ?_); go_simp; first | (refine hK _ ?_; clear hK K) | (apply Exists.intro; refine ⟨fun _ => ?_, hK _ ?_⟩; first | (go_at_call 15; exact Calls.in_qg_same (HLen.out _ ((Gn.refl _).gr _))); clear hK K)
      refine wpMix_pick 10 (by decide +kernel) rfl (by decide +kernel) (HG11.out) (by decide +kernel) (fun K hK => ?_); go_simp; first | (refine hK _ ?_; clear hK K) | (apply Exists.intro; refine ⟨fun _ => ?_, hK _ ?_⟩; first | (fail); clear hK K)
      refine wpMix_pick 11 (by decide +kernel) rfl (by decide +kernel) (HG11.out) (by decide +kernel) (fun K hK => ?_); go_simp; first | (refine hK _ ?_; clear hK K) | (apply Exists.intro; refine ⟨fun _ => ?_, hK _ ?_⟩; first | (fail); clear hK K)
      refine wpMix_pick 12 (by decide +kernel) rfl (by decide +kernel) (HG11.out) (by decide +kernel) (fun K hK => ?_); go_simp; first | (refine hK _ ?_; clear hK K) | (apply Exists.intro; refine ⟨fun _ => ?_, hK _ ?_⟩; first | (fail); clear hK K)
      refine wpMix_pick 13 (by decide +kernel) rfl (by decide +kernel) (HG11.out) (by decide +kernel) (fun K hK => ?_); go_simp; first | (refine hK _ ?_; clear hK K) | (apply Exists.intro; refine ⟨fun _ => ?_, hK _ ?_⟩; first | (fail); clear hK K)
      refine wpMix_pick 14 (by decide +kernel) rfl (by decide +kernel) (HG11.out) (by decide +kernel) (fun K hK => ?_); go_simp; first | (refine hK _ ?_; clear hK K) | (apply Exists.intro; refine ⟨fun _ => ?_, hK _ ?_⟩; first | (fail); clear hK K)
      refine wpMix_pick 15 (by decide +kernel) rfl (by decide +kernel) (HG11.out) (by decide +kernel) (fun K hK => ?_); go_simp; first | (refine hK _ ?_; clear hK K) | (apply Exists.intro; refine ⟨fun _ => ?_, hK _ ?_⟩; first | (fail); clear hK K)
      refine wpMix_pick 16 (by decide +kernel) rfl (by decide +kernel) (HG11.out) (by decide +kernel) (fun K hK => ?_); go_simp; first | (refine hK _ ?_; clear hK K) | (apply Exists.intro; refine ⟨fun _ => ?_, hK _ ?_⟩; first | (fail); clear hK K)
      refine wpMix_pick 17 (by decide +kernel) rfl (by decide +kernel) (HG11.out) (by decide +kernel) (fun K hK => ?_); go_simp; first | (refine hK _ ?_; clear hK K) | (apply Exists.intro; refine ⟨fun _ => ?_, hK _ ?_⟩; first | (fail); clear hK K)
      refine wpMix_pick 18 (by decide +kernel) rfl (by decide +kernel) (HG11.out) (by decide +kernel) (fun K hK => ?_); go_simp; first | (refine hK _ ?_; clear hK K) | (apply Exists.intro; refine ⟨fun _ => ?_, hK _ ?_⟩; first | (fail); clear hK K)
      refine wpMix_pick 19 (by decide +kernel) rfl (by decide +kernel) (HG11.out) (by decide +kernel) (fun K hK => ?_); go_simp; first | (refine hK _ ?_; clear hK K) | (apply Exists.intro; refine ⟨fun _ => ?_, hK _ ?_⟩; first | (fail); clear hK K)
      refine wpMix_pick 20 (by decide +kernel) rfl (by decide +kernel) (HG11.out) (by decide +kernel) (fun K hK => ?_); go_simp; first | (refine hK _ ?_; clear hK K) | (apply Exists.intro; refine ⟨fun _ => ?_, hK _ ?_⟩; first | (go_at_call 11; exact Calls.in_qg_same (HNx.out _ ((Gn.refl _).gr _))); clear hK K)
      refine wpMix_pick 21 (by decide +kernel) rfl (by decide +kernel) (HG11.out) (by decide +kernel) (fun K hK => ?_); go_simp; first | (refine hK _ ?_; clear hK K) | (apply Exists.intro; refine ⟨fun _ => ?_, hK _ ?_⟩; first | (fail); clear hK K)
      refine wpMix_pick 22 (by decide +kernel) rfl (by decide +kernel) (HG11.out) (by decide +kernel) (fun K hK => ?_); go_simp; first | (refine hK _ ?_; clear hK K) | (apply Exists.intro; refine ⟨fun _ => ?_, hK _ ?_⟩; first | (fail); clear hK K)
      refine wpMix_pick 23 (by decide +kernel) rfl (by decide +kernel) (HG11.out) (by decide +kernel) (fun K hK => ?_); go_simp; first | (refine hK _ ?_; clear hK K) | (apply Exists.intro; refine ⟨fun _ => ?_, hK _ ?_⟩; first | (go_at_call 21; exact Calls.in_qg_same (HRNx.out _ ((Gn.refl _).gr _))); clear hK K)
      refine wpMix_pick 24 (by decide +kernel) rfl (by decide +kernel) (HG11.out) (by decide +kernel) (fun K hK => ?_); go_simp; first | (refine hK _ ?_; clear hK K) | (apply Exists.intro; refine ⟨fun _ => ?_, hK _ ?_⟩; first | (fail); clear hK K)
      refine wpMix_pick 25 (by decide +kernel) rfl (by decide +kernel) (HG11.out) (by decide +kernel) (fun K hK => ?_); go_simp; first | (refine hK _ ?_; clear hK K) | (apply Exists.intro; refine ⟨fun _ => ?_, hK _ ?_⟩; first | (fail); clear hK K)
      refine wpMix_pick 26 (by decide +kernel) rfl (by decide +kernel) (HG11.out) (by decide +kernel) (fun K hK => ?_); go_simp; first | (refine hK _ ?_; clear hK K) | (apply Exists.intro; refine ⟨fun _ => ?_, hK _ ?_⟩; first | (fail); clear hK K)
      refine wpMix_pick 27 (by decide +kernel) rfl (by decide +kernel) (HG11.out) (by decide +kernel) (fun K hK => ?_); go_simp; first | (refine hK _ ?_; clear hK K) | (apply Exists.intro; refine ⟨fun _ => ?_, hK _ ?_⟩; first | (fail); clear hK K)
      refine wpMix_pick 28 (by decide +kernel) rfl (by decide +kernel) (HG11.out) (by decide +kernel) (fun K hK => ?_); go_simp; first | (refine hK _ ?_; clear hK K) | (apply Exists.intro; refine ⟨fun _ => ?_, hK _ ?_⟩; first | (fail); clear hK K)
      refine wpMix_pick 29 (by decide +kernel) rfl (by decide +kernel) (HG11.out) (by decide +kernel) (fun K hK => ?_); go_simp; first | (refine hK _ ?_; clear hK K) | (apply Exists.intro; refine ⟨fun _ => ?_, hK _ ?_⟩; first | (go_at_call 10; exact Calls.in_qg_same (HRk.out _ ((Gn.refl _).gr _))); clear hK K)
      refine wpMix_pick 30 (by decide +kernel) rfl (by decide +kernel) (HG11.out) (by decide +kernel) (fun K hK => ?_); go_simp; first | (refine hK _ ?_; clear hK K) | (apply Exists.intro; refine ⟨fun _ => ?_, hK _ ?_⟩; first | (fail); clear hK K)
      refine wpMix_pick 31 (by decide +kernel) rfl (by decide +kernel) (HG11.out) (by decide +kernel) (fun K hK => ?_); go_simp; first | (refine hK _ ?_; clear hK K) | (apply Exists.intro; refine ⟨fun _ => ?_, hK _ ?_⟩; first | (fail); clear hK K)
      refine wpMix_pick 32 (by decide +kernel) rfl (by decide +kernel) (HG11.out) (by decide +kernel) (fun K hK => ?_); go_simp; first | (refine hK _ ?_; clear hK K) | (apply Exists.intro; refine ⟨fun _ => ?_, hK _ ?_⟩; first | (go_at_call 22; exact Calls.in_qg_same (HRRk.out _ ((Gn.refl _).gr _))); clear hK K)
      refine wpMix_pick 33 (by decide +kernel) rfl (by decide +kernel) (HG11.out) (by decide +kernel) (fun K hK => ?_); go_simp; first | (refine hK _ ?_; clear hK K) | (apply Exists.intro; refine ⟨fun _ => ?_, hK _ ?_⟩; first | (fail); clear hK K)
      refine wpMix_pick 34 (by decide +kernel) rfl (by decide +kernel) (HG11.out) (by decide +kernel) (fun K hK => ?_); go_simp; first | (refine hK _ ?_; clear hK K) | (apply Exists.intro; refine ⟨fun _ => ?_, hK _ ?_⟩; first | (fail); clear hK K)
      refine wpMix_pick 35 (by decide +kernel) rfl (by decide +kernel) (HG11.out) (by decide +kernel) (fun K hK => ?_); go_simp; first | (refine hK _ ?_; clear hK K) | (apply Exists.intro; refine ⟨fun _ => ?_, hK _ ?_⟩; first | (fail); clear hK K)
      refine wpMix_pick 36 (by decide +kernel) rfl (by decide +kernel) (HG11.out) (by decide +kernel) (fun K hK => ?_); go_simp; first | (refine hK _ ?_; clear hK K) | (apply Exists.intro; refine ⟨fun _ => ?_, hK _ ?_⟩; first | (fail); clear hK K)
      refine wpMix_pick 37 (by decide +kernel) rfl (by decide +kernel) (HG11.out) (by decide +kernel) (fun K hK => ?_); go_simp; first | (refine hK _ ?_; clear hK K) | (apply Exists.intro; refine ⟨fun _ => ?_, hK _ ?_⟩; first | (fail); clear hK K)
      refine wpMix_pick 38 (by decide +kernel) rfl (by decide +kernel) (HG11.out) (by decide +kernel) (fun K hK => ?_); go_simp; first | (refine hK _ ?_; clear hK K) | (apply Exists.intro; refine ⟨fun _ => ?_, hK _ ?_⟩; first | (go_at_call 9; exact Calls.in_qg_same (HNt.out _ ((Gn.refl _).gr _))); clear hK K)
      refine wpMix_pick 39 (by decide +kernel) rfl (by decide +kernel) (HG11.out) (by decide +kernel) (fun K hK => ?_); go_simp; first | (refine hK _ ?_; clear hK K) | (apply Exists.intro; refine ⟨fun _ => ?_, hK _ ?_⟩; first | (fail); clear hK K)
      refine wpMix_pick 40 (by decide +kernel) rfl (by decide +kernel) (HG11.out) (by decide +kernel) (fun K hK => ?_); go_simp; first | (refine hK _ ?_; clear hK K) | (apply Exists.intro; refine ⟨fun _ => ?_, hK _ ?_⟩; first | (fail); clear hK K)
      refine wpMix_pick 41 (by decide +kernel) rfl (by decide +kernel) (HG11.out) (by decide +kernel) (fun K hK => ?_); go_simp; first | (refine hK _ ?_; clear hK K) | (apply Exists.intro; refine ⟨fun _ => ?_, hK _ ?_⟩; first | (go_at_call 23; exact Calls.in_qg_same (HRNt.out _ ((Gn.refl _).gr _))); clear hK K)
      refine wpMix_pick 42 (by decide +kernel) rfl (by decide +kernel) (HG11.out) (by decide +kernel) (fun K hK => ?_); go_simp; first | (refine hK _ ?_; clear hK K) | (apply Exists.intro; refine ⟨fun _ => ?_, hK _ ?_⟩; first | (fail); clear hK K)
      refine wpMix_pick 43 (by decide +kernel) rfl (by decide +kernel) (HG11.out) (by decide +kernel) (fun K hK => ?_); go_simp; first | (refine hK _ ?_; clear hK K) | (apply Exists.intro; refine ⟨fun _ => ?_, hK _ ?_⟩; first | (fail); clear hK K)
      refine wpMix_pick 44 (by decide +kernel) rfl (by decide +kernel) (HG11.out) (by decide +kernel) (fun K hK => ?_); go_simp; first | (refine hK _ ?_; clear hK K) | (apply Exists.intro; refine ⟨fun _ => ?_, hK _ ?_⟩; first | (fail); clear hK K)
      refine wpMix_pick 45 (by decide +kernel) rfl (by decide +kernel) (HG11.out) (by decide +kernel) (fun K hK => ?_); go_simp; first | (refine hK _ ?_; clear hK K) | (apply Exists.intro; refine ⟨fun _ => ?_, hK _ ?_⟩; first | (fail); clear hK K)
      refine wpMix_pick 46 (by decide +kernel) rfl (by decide +kernel) (HG11.out) (by decide +kernel) (fun K hK => ?_); go_simp; first | (refine hK _ ?_; clear hK K) | (apply Exists.intro; refine ⟨fun _ => ?_, hK _ ?_⟩; first | (fail); clear hK K)
      refine wpMix_pick 47 (by decide +kernel) rfl (by decide +kernel) (HG11.out) (by decide +kernel) (fun K hK => ?_); go_simp; first | (refine hK _ ?_; clear hK K) | (apply Exists.intro; refine ⟨fun _ => ?_, hK _ ?_⟩; first | (go_at_call 8; exact Calls.in_qg_same (HHs.out _ ((Gn.refl _).gr _))); clear hK K)
      refine wpMix_pick 48 (by decide +kernel) rfl (by decide +kernel) (HG11.out) (by decide +kernel) (fun K hK => ?_); go_simp; first | (refine hK _ ?_; clear hK K) | (apply Exists.intro; refine ⟨fun _ => ?_, hK _ ?_⟩; first | (fail); clear hK K)
      refine wpMix_pick 49 (by decide +kernel) rfl (by decide +kernel) (HG11.out) (by decide +kernel) (fun K hK => ?_); go_simp; first | (refine hK _ ?_; clear hK K) | (apply Exists.intro; refine ⟨fun _ => ?_, hK _ ?_⟩; first | (fail); clear hK K)
      refine wpMix_pick 50 (by decide +kernel) rfl (by decide +kernel) (HG11.out) (by decide +kernel) (fun K hK => ?_); go_simp; first | (refine hK _ ?_; clear hK K) | (apply Exists.intro; refine ⟨fun _ => ?_, hK _ ?_⟩; first | (fail); clear hK K)
      refine wpMix_pick 51 (by decide +kernel) rfl (by decide +kernel) (HG11.out) (by decide +kernel) (fun K hK => ?_); go_simp; first | (refine hK _ ?_; clear hK K) | (apply Exists.intro; refine ⟨fun _ => ?_, hK _ ?_⟩; first | (fail); clear hK K)
      refine wpMix_pick 52 (by decide +kernel) rfl (by decide +kernel) (HG11.out) (by decide +kernel) (fun K hK => ?_); go_simp; first | (refine hK _ ?_; clear hK K) | (apply Exists.intro; refine ⟨fun _ => ?_, hK _ ?_⟩; first | (fail); clear hK K)
      refine wpMix_pick 53 (by decide +kernel) rfl (by decide +kernel) (HG11.out) (by decide +kernel) (fun K hK => ?_); go_simp; first | (refine hK _ ?_; clear hK K) | (apply Exists.intro; refine ⟨fun _ => ?_, hK _ ?_⟩; first | (go_at_call 21; exact Calls.in_qg_same (HRNx.out _ ((Gn.refl _).gr _))); clear hK K)
      refine wpMix_pick 54 (by decide +kernel) rfl (by decide +kernel) (HG11.out) (by decide +kernel) (fun K hK => ?_); go_simp; first | (refine hK _ ?_; clear hK K) | (apply Exists.intro; refine ⟨fun _ => ?_, hK _ ?_⟩; first | (fail); clear hK K)
      refine wpMix_pick 55 (by decide +kernel) rfl (by decide +kernel) (HG11.out) (by decide +kernel) (fun K hK => ?_); go_simp; first | (refine hK _ ?_; clear hK K) | (apply Exists.intro; refine ⟨fun _ => ?_, hK _ ?_⟩; first | (fail); clear hK K)
      refine wpMix_pick 56 (by decide +kernel) rfl (by decide +kernel) (HG11.out) (by decide +kernel) (fun K hK => ?_); go_simp; first | (refine hK _ ?_; clear hK K) | (apply Exists.intro; refine ⟨fun _ => ?_, hK _ ?_⟩; first | (fail); clear hK K)
      refine wpMix_pick 57 (by decide +kernel) rfl (by decide +kernel) (HG11.out) (by decide +kernel) (fun K hK => ?_); go_simp; first | (refine hK _ ?_; clear hK K) | (apply Exists.intro; refine ⟨fun _ => ?_, hK _ ?_⟩; first | (fail); clear hK K)
      refine wpMix_pick 58 (by decide +kernel) rfl (by decide +kernel) (HG11.out) (by decide +kernel) (fun K hK => ?_); go_simp; first | (refine hK _ ?_; clear hK K) | (apply Exists.intro; refine ⟨fun _ => ?_, hK _ ?_⟩; first | (fail); clear hK K)
      refine wpMix_pick 59 (by decide +kernel) rfl (by decide +kernel) (HG11.out) (by decide +kernel) (fun K hK => ?_); go_simp; first | (refine hK _ ?_; clear hK K) | (apply Exists.intro; refine ⟨fun _ => ?_, hK _ ?_⟩; first | (fail); clear hK K)
      refine wpMix_pick 60 (by decide +kernel) rfl (by decide +kernel) (HG11.out) (by decide +kernel) (fun K hK => ?_); go_simp; first | (refine hK _ ?_; clear hK K) | (apply Exists.intro; refine ⟨fun _ => ?_, hK _ ?_⟩; first | (fail); clear hK K)
      refine wpMix_pick 62 (by decide +kernel) rfl (by decide +kernel) (HG11.out) (by decide +kernel) (fun K hK => ?_); go_simp; first | (refine hK _ ?_; clear hK K) | (apply Exists.intro; refine ⟨fun _ => ?_, hK _ ?_⟩; first | (fail); clear hK K)
      refine wpMix_pick 63 (by decide +kernel) rfl (by decide +kernel) (HG11.out) (by decide +kernel) (fun K hK => ?_); go_simp; first | (refine hK _ ?_; clear hK K) | (apply Exists.intro; refine ⟨fun _ => ?_, hK _ ?_⟩; first | (fail); clear hK K)
      refine wpMix_pick 64 (by decide +kernel) rfl (by decide +kernel) (HG11.out) (by decide +kernel) (fun K hK => ?_); go_simp; first | (refine hK _ ?_; clear hK K) | (apply Exists.intro; refine ⟨fun _ => ?_, hK _ ?_⟩; first | (fail); clear hK K)
      refine wpMix_pick 65 (by decide +kernel) rfl (by decide +kernel) (HG11.out) (by decide +kernel) (fun K hK => ?_); go_simp; first | (refine hK _ ?_; clear hK K) | (apply Exists.intro; refine ⟨fun _ => ?_, hK _ ?_⟩; first | (fail); clear hK K)
      refine wpMix_one (i := 61) (by decide +kernel) rfl ?_
      intro q61
      go_wp2_with (go_at_call 20; refine Calls.mono (list_any2 _ ub ug N (mb29 m1 m2) (HU9.out.gn (HG11.out.gr _)) hN (tab_gn HT9.out (HG11.out.gr _))) ?_; rintro _ w12 ⟨lv12, rfl, h1, h2⟩; have HL12 : Hid (IR w12 0 lv12 (nums (mb29 m1 m2) N)) := h1.lower (Nat.zero_le _); have HG12 : Hid (Gn w9 w12) := Gn.trans (HG11.out.gr _) h2; clear h1 h2)
      refine ⟨HG12.out, ?_⟩
      refine wpMix_one (i := 66) (by decide +kernel) rfl ?_
      intro q66
      go_wp2_with (go_at_call 19; refine Calls.mono (rsame_yes _ 0 0 _ _ (nums (mb29 m1 m2) N) (HL12.out.gn ((Gn.refl _).gr _)) ((HZW.out _ (HG12.out.gr _)).2) (by omega)) ?_; rintro _ w13 ⟨rfl, h2⟩; have HG13 : Hid (Gn w9 w13) := Gn.trans (HG12.out.gr _) h2; clear h2)
      refine ⟨HG13.out, ?_⟩
      refine wpMix_pick 67 (by decide +kernel) rfl (by decide +kernel) (HG13.out) (by decide +kernel) (fun K hK => ?_); go_simp; first | (refine hK _ ?_; clear hK K) | (apply Exists.intro; refine ⟨fun _ => ?_, hK _ ?_⟩; first | (fail); clear hK K)
      refine wpMix_pick 68 (by decide +kernel) rfl (by decide +kernel) (HG13.out) (by decide +kernel) (fun K hK => ?_); go_simp; first | (refine hK _ ?_; clear hK K) | (apply Exists.intro; refine ⟨fun _ => ?_, hK _ ?_⟩; first | (fail); clear hK K)
      refine wpMix_pick 69 (by decide +kernel) rfl (by decide +kernel) (HG13.out) (by decide +kernel) (fun K hK => ?_); go_simp; first | (refine hK _ ?_; clear hK K) | (apply Exists.intro; refine ⟨fun _ => ?_, hK _ ?_⟩; first | (fail); clear hK K)
      refine wpMix_pick 71 (by decide +kernel) rfl (by decide +kernel) (HG13.out) (by decide +kernel) (fun K hK => ?_); go_simp; first | (refine hK _ ?_; clear hK K) | (apply Exists.intro; refine ⟨fun _ => ?_, hK _ ?_⟩; first | (fail); clear hK K)
      refine wpMix_pick 72 (by decide +kernel) rfl (by decide +kernel) (HG13.out) (by decide +kernel) (fun K hK => ?_); go_simp; first | (refine hK _ ?_; clear hK K) | (apply Exists.intro; refine ⟨fun _ => ?_, hK _ ?_⟩; first | (fail); clear hK K)
      refine wpMix_pick 73 (by decide +kernel) rfl (by decide +kernel) (HG13.out) (by decide +kernel) (fun K hK => ?_); go_simp; first | (refine hK _ ?_; clear hK K) | (apply Exists.intro; refine ⟨fun _ => ?_, hK _ ?_⟩; first | (fail); clear hK K)
      refine wpMix_pick 74 (by decide +kernel) rfl (by decide +kernel) (HG13.out) (by decide +kernel) (fun K hK => ?_); go_simp; first | (refine hK _ ?_; clear hK K) | (apply Exists.intro; refine ⟨fun _ => ?_, hK _ ?_⟩; first | (fail); clear hK K)
      refine wpMix_pick 75 (by decide +kernel) rfl (by decide +kernel) (HG13.out) (by decide +kernel) (fun K hK => ?_); go_simp; first | (refine hK _ ?_; clear hK K) | (apply Exists.intro; refine ⟨fun _ => ?_, hK _ ?_⟩; first | (fail); clear hK K)
      refine wpMix_one (i := 70) (by decide +kernel) rfl ?_
      intro q70
      go_wp2_with (go_at_call 20; refine Calls.mono (list_any2 _ vb vg N (mb30 m1 m2) (HV9.out.gn (HG13.out.gr _)) hN (tab_gn HT9.out (HG13.out.gr _))) ?_; rintro _ w14 ⟨lv14, rfl, h1, h2⟩; have HL14 : Hid (IR w14 0 lv14 (nums (mb30 m1 m2) N)) := h1.lower (Nat.zero_le _); have HG14 : Hid (Gn w9 w14) := Gn.trans (HG13.out.gr _) h2; clear h1 h2)
      refine ⟨HG14.out, ?_⟩
      refine wpMix_one (i := 76) (by decide +kernel) rfl ?_
      intro q76
      go_wp2_with (go_at_call 18; refine Calls.mono (rwithout_any _ 0 0 _ _ (nums m1 N) (nums (mb31 m1 m2) N) (HX9.out _ (HG14.out.gr _)).2 (HR9.out.gn (HG14.out.gr _)) (by omega) (by omega)) ?_; rintro _ w15 ⟨rv15, rfl, h1, h2⟩; rw [wo_nums, less_less] at h1; have HD15 : Hid (IR w15 0 rv15 (nums (mb30 m1 m2) N)) := h1.lower (Nat.zero_le _); have HG15 : Hid (Gn w9 w15) := Gn.trans (HG14.out.gr _) h2; have HL15 : Hid (IR w15 0 lv14 (nums (mb30 m1 m2) N)) := HL14.out.gn (((Gn.refl _).gr _).trans h2); clear h1 h2)
      refine ⟨HG15.out, ?_⟩
      refine wpMix_one (i := 77) (by decide +kernel) rfl ?_
      intro q77
      go_wp2_with (go_at_call 19; refine Calls.mono (rsame_yes _ 0 0 _ _ (nums (mb30 m1 m2) N) (HL15.out.gn ((Gn.refl _).gr _)) (HD15.out.gn ((Gn.refl _).gr _)) (by omega)) ?_; rintro _ w16 ⟨rfl, h2⟩; have HG16 : Hid (Gn w9 w16) := Gn.trans (HG15.out.gr _) h2; clear h2)
      refine ⟨HG16.out, ?_⟩
      refine wpMix_pick 78 (by decide +kernel) rfl (by decide +kernel) (HG16.out) (by decide +kernel) (fun K hK => ?_); go_simp; first | (refine hK _ ?_; clear hK K) | (apply Exists.intro; refine ⟨fun _ => ?_, hK _ ?_⟩; first | (fail); clear hK K)
      refine wpMix_pick 79 (by decide +kernel) rfl (by decide +kernel) (HG16.out) (by decide +kernel) (fun K hK => ?_); go_simp; first | (refine hK _ ?_; clear hK K) | (apply Exists.intro; refine ⟨fun _ => ?_, hK _ ?_⟩; first | (fail); clear hK K)
      refine wpMix_pick 80 (by decide +kernel) rfl (by decide +kernel) (HG16.out) (by decide +kernel) (fun K hK => ?_); go_simp; first | (refine hK _ ?_; clear hK K) | (apply Exists.intro; refine ⟨fun _ => ?_, hK _ ?_⟩; first | (fail); clear hK K)
      refine wpMix_pick 82 (by decide +kernel) rfl (by decide +kernel) (HG16.out) (by decide +kernel) (fun K hK => ?_); go_simp; first | (refine hK _ ?_; clear hK K) | (apply Exists.intro; refine ⟨fun _ => ?_, hK _ ?_⟩; first | (fail); clear hK K)
      refine wpMix_one (i := 81) (by decide +kernel) rfl ?_
      intro q81
      go_wp2_with (go_at_call 20; refine Calls.mono (list_any2 _ wb wg N (mb31 m1 m2) (HW9.out.gn (HG16.out.gr _)) hN (tab_gn HT9.out (HG16.out.gr _))) ?_; rintro _ w17 ⟨lv17, rfl, h1, h2⟩; have HL17 : Hid (IR w17 0 lv17 (nums (mb31 m1 m2) N)) := h1.lower (Nat.zero_le _); have HG17 : Hid (Gn w9 w17) := Gn.trans (HG16.out.gr _) h2; clear h1 h2)
      refine ⟨HG17.out, ?_⟩
      refine wpMix_one (i := 83) (by decide +kernel) rfl ?_
      intro q83
      go_wp2_with (go_at_call 19; refine Calls.mono (rsame_yes _ 0 0 _ _ (nums (mb31 m1 m2) N) (HL17.out.gn ((Gn.refl _).gr _)) (HR9.out.gn (HG17.out.gr _)) (by omega)) ?_; rintro _ w18 ⟨rfl, h2⟩; have HG18 : Hid (Gn w9 w18) := Gn.trans (HG17.out.gr _) h2; clear h2)
      refine ⟨HG18.out, ?_⟩
      refine wpMix_pick 84 (by decide +kernel) rfl (by decide +kernel) (HG18.out) (by decide +kernel) (fun K hK => ?_); go_simp; first | (refine hK _ ?_; clear hK K) | (apply Exists.intro; refine ⟨fun _ => ?_, hK _ ?_⟩; first | (fail); clear hK K)
      refine wpMix_pick 85 (by decide +kernel) rfl (by decide +kernel) (HG18.out) (by decide +kernel) (fun K hK => ?_); go_simp; first | (refine hK _ ?_; clear hK K) | (apply Exists.intro; refine ⟨fun _ => ?_, hK _ ?_⟩; first | (fail); clear hK K)
      refine wpMix_pick 86 (by decide +kernel) rfl (by decide +kernel) (HG18.out) (by decide +kernel) (fun K hK => ?_); go_simp; first | (refine hK _ ?_; clear hK K) | (apply Exists.intro; refine ⟨fun _ => ?_, hK _ ?_⟩; first | (fail); clear hK K)
      refine wpMix_pick 87 (by decide +kernel) rfl (by decide +kernel) (HG18.out) (by decide +kernel) (fun K hK => ?_); go_simp; first | (refine hK _ ?_; clear hK K) | (apply Exists.intro; refine ⟨fun _ => ?_, hK _ ?_⟩; first | (fail); clear hK K)
      refine wpMix_pick 88 (by decide +kernel) rfl (by decide +kernel) (HG18.out) (by decide +kernel) (fun K hK => ?_); go_simp; first | (refine hK _ ?_; clear hK K) | (apply Exists.intro; refine ⟨fun _ => ?_, hK _ ?_⟩; first | (fail); clear hK K)
      refine wpMix_pick 92 (by decide +kernel) rfl (by decide +kernel) (HG18.out) (by decide +kernel) (fun K hK => ?_); go_simp; first | (refine hK _ ?_; clear hK K) | (apply Exists.intro; refine ⟨fun _ => ?_, hK _ ?_⟩; first | (fail); clear hK K)
      refine wpMix_pick 93 (by decide +kernel) rfl (by decide +kernel) (HG18.out) (by decide +kernel) (fun K hK => ?_); go_simp; first | (refine hK _ ?_; clear hK K) | (apply Exists.intro; refine ⟨fun _ => ?_, hK _ ?_⟩; first | (fail); clear hK K)
      refine wpMix_pick 94 (by decide +kernel) rfl (by decide +kernel) (HG18.out) (by decide +kernel) (fun K hK => ?_); go_simp; first | (refine hK _ ?_; clear hK K) | (apply Exists.intro; refine ⟨fun _ => ?_, hK _ ?_⟩; first | (fail); clear hK K)
      refine wpMix_pick 95 (by decide +kernel) rfl (by decide +kernel) (HG18.out) (by decide +kernel) (fun K hK => ?_); go_simp; first | (refine hK _ ?_; clear hK K) | (apply Exists.intro; refine ⟨fun _ => ?_, hK _ ?_⟩; first | (fail); clear hK K)
      refine wpMix_one (i := 89) (by decide +kernel) rfl ?_
      intro q89
      go_wp2_with (go_at_call 6; refine Calls.mono (new_ok _ M (by have := HH.out; omega)) ?_; rintro _ w19 ⟨s2, rfl, _, h2, g2, h3, _⟩; have HN19 : Hid (ST w19 s2 g2 M (fun _ => false)) := h3; have HG19 : Hid (Gn w9 w19) := Gn.trans (HG18.out.gr _) h2; clear h2 h3)
      refine ⟨HG19.out, ?_⟩
      refine wpMix_one (i := 90) (by decide +kernel) rfl ?_
      intro q90
      go_wp2_with (go_at_call 12; refine Calls.mono (union_half _ sb g s2 g2 N m1 _ (HS9.out.gn (HG19.out.gr _)) (by rw [← HH.out]; exact HN19.out.gn ((Gn.refl _).gr _)) hN) ?_; rintro _ w20 ⟨ur, rfl, hur, h2⟩; have HG20 : Hid (Gn w9 w20) := Gn.trans (HG19.out.gr _) h2; have HUR : Hid (N = 0 ∧ (∃ sc, ur = some ⟨sc, 0, none⟩) ∨ 0 < N ∧ ur = none) := hur; clear h2 hur)
      refine ⟨HG20.out, ?_⟩
      rcases HUR.out with ⟨h0, sc, rfl⟩ | ⟨h0, rfl⟩
      · have hMN : (M : Int) = (N : Int) := by have := HH.out; omega
        refine wpMix_pick 91 (by decide +kernel) rfl (by decide +kernel) (HG20.out) (by decide +kernel) (fun K hK => ?_); go_simp; first | (refine hK _ ?_; clear hK K) | (apply Exists.intro; refine ⟨fun _ => ?_, hK _ ?_⟩; first | (fail); clear hK K)
        refine wpMix_pick 96 (by decide +kernel) rfl (by decide +kernel) (HG20.out) (by decide +kernel) (fun K hK => ?_); go_simp; first | (refine hK _ ?_; clear hK K) | (apply Exists.intro; refine ⟨fun _ => ?_, hK _ ?_⟩; first | (fail); clear hK K)
        refine wpMix_pick 97 (by decide +kernel) rfl (by decide +kernel) (HG20.out) (by decide +kernel) (fun K hK => ?_); go_simp; first | (refine hK _ ?_; clear hK K) | (apply Exists.intro; refine ⟨fun _ => ?_, hK _ ?_⟩; first | (fail); clear hK K)
        refine wpMix_pick 98 (by decide +kernel) rfl (by decide +kernel) (HG20.out) (by decide +kernel) (fun K hK => ?_); go_simp; first | (refine hK _ ?_; clear hK K) | (apply Exists.intro; refine ⟨fun _ => ?_, hK _ ?_⟩; first | (fail); clear hK K)
        refine wpMix_pick 99 (by decide +kernel) rfl (by decide +kernel) (HG20.out) (by decide +kernel) (fun K hK => ?_); go_simp; first | (refine hK _ ?_; clear hK K) | (apply Exists.intro; refine ⟨fun _ => ?_, hK _ ?_⟩; first | (go_at_call 5; exact Calls.in_qg (HAw.out _ ((Gn.refl _).gr _))); clear hK K)
        refine wpMix_pick 100 (by decide +kernel) rfl (by decide +kernel) (HG20.out) (by decide +kernel) (fun K hK => ?_); go_simp; first | (refine hK _ ?_; clear hK K) | (apply Exists.intro; refine ⟨fun _ => ?_, hK _ ?_⟩; first | (fail); clear hK K)
        refine wpMix_one (i := 101) (by kernel_rfl) rfl ?_
        intro q101
        go_wp2
        refine ⟨HG20.out.gr _, ?_⟩
        refine wpMix_done (by kernel_rfl) ?_
        intro qz
        go_wp2
        go_ret
        exact ⟨rfl, HGW9.out.trans ((HG20.out.gr _).gr _)⟩
      · have hMN : ¬ (M : Int) = (N : Int) := by have := HH.out; omega
        have hMB : ((M : Int) != (N : Int)) = true := bne_iff_ne.2 hMN
        refine wpMix_pick 91 (by decide +kernel) rfl (by decide +kernel) (HG20.out) (by decide +kernel) (fun K hK => ?_); go_simp; first | (refine hK _ ?_; clear hK K) | (apply Exists.intro; refine ⟨fun _ => ?_, hK _ ?_⟩; first | (fail); clear hK K)
        refine wpMix_pick 96 (by decide +kernel) rfl (by decide +kernel) (HG20.out) (by decide +kernel) (fun K hK => ?_); go_simp; first | (refine hK _ ?_; clear hK K) | (apply Exists.intro; refine ⟨fun _ => ?_, hK _ ?_⟩; first | (fail); clear hK K)
        refine wpMix_pick 97 (by decide +kernel) rfl (by decide +kernel) (HG20.out) (by decide +kernel) (fun K hK => ?_); go_simp; first | (refine hK _ ?_; clear hK K) | (apply Exists.intro; refine ⟨fun _ => ?_, hK _ ?_⟩; first | (fail); clear hK K)
        refine wpMix_pick 98 (by decide +kernel) rfl (by decide +kernel) (HG20.out) (by decide +kernel) (fun K hK => ?_); go_simp; first | (refine hK _ ?_; clear hK K) | (apply Exists.intro; refine ⟨fun _ => ?_, hK _ ?_⟩; first | (fail); clear hK K)
        refine wpMix_pick 99 (by decide +kernel) rfl (by decide +kernel) (HG20.out) (by decide +kernel) (fun K hK => ?_); go_simp; first | (refine hK _ ?_; clear hK K) | (apply Exists.intro; refine ⟨fun _ => ?_, hK _ ?_⟩; first | (go_at_call 5; exact Calls.in_qg (HAw.out _ ((Gn.refl _).gr _))); clear hK K)
        refine wpMix_pick 100 (by decide +kernel) rfl (by decide +kernel) (HG20.out) (by decide +kernel) (fun K hK => ?_); go_simp; first | (refine hK _ ?_; clear hK K) | (apply Exists.intro; refine ⟨fun _ => ?_, hK _ ?_⟩; first | (fail); clear hK K)
        refine wpMix_one (i := 101) (by kernel_rfl) rfl ?_
        intro q101
        go_wp2
        refine ⟨HG20.out.gr _, ?_⟩
        refine wpMix_done (by kernel_rfl) ?_
        intro qz
        go_wp2
        go_ret
        first | exact ⟨rfl, HGW9.out.trans ((HG20.out.gr _).gr _)⟩ | (refine ⟨?_, HGW9.out.trans ((HG20.out.gr _).gr _)⟩; show Ending.returned (Value.bool ((M : Int) != (N : Int))) = _; rw [hMB])
end Go.Proofs.YtoaefmnjndklkaaDoor
