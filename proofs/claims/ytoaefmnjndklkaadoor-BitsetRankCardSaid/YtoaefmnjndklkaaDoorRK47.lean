/- BitsetRank's walk. -/
import Derived.Test.YtoaefmnjndklkaaDoorA47
namespace Go.Proofs.YtoaefmnjndklkaaDoor
open Go.RowKit

theorem nl_mem {l : List Nat} {k : Nat} (hk : k < l.length) : nl l k ∈ l := by
  unfold nl
  rw [List.getElem?_eq_getElem hk]
  exact List.getElem_mem hk
set_option maxHeartbeats 4000000 in
set_option maxRecDepth 100000 in
theorem rank_walk (size : Int) (v v' : Value) (l l' : List Nat) (w : World) (hT : TabAt 0 Lib.deBruijn64tab w) (hs : 0 ≤ size ∧ size ≤ 65535) (hv : UA w v l) (hl : ∀ x ∈ l, x ≤ 65535) (hv' : UA w v' l') (hl' : ∀ x ∈ l', x ≤ 65535) :
    Calls Tryd.prog 3 #[.int .u16 size, v, v'] w fun e w' => e = .returned (.bool true) ∧ Gn w w' := by
  obtain ⟨o, c, rfl⟩ := hv.shape
  obtain ⟨o', c', rfl⟩ := hv'.shape
  have HT : Hid (TabAt 0 Lib.deBruijn64tab w) := hT
  have HV : Hid (UA w (.slice o l.length c) l) := hv
  have HV' : Hid (UA w (.slice o' l'.length c') l') := hv'
  have HL : Hid (∀ x ∈ l, x ≤ 65535) := hl
  have HL' : Hid (∀ x ∈ l', x ≤ 65535) := hl'
  clear hT hv hv' hl hl'
  obtain ⟨n, hn⟩ : ∃ n : Nat, 1 + size.tmod 300 = (n : Int) := ⟨(1 + size.tmod 300).toNat, by have := Int.tmod_nonneg 300 hs.1; omega⟩
  have hn2 : 1 + size % 300 = (n : Int) := by rw [← hn, Int.tmod_eq_emod_of_nonneg hs.1]
  have hn1 : 0 < n := by have := Int.tmod_nonneg 300 hs.1; omega
  have hn300 : n ≤ 300 := by have := Int.tmod_lt_of_pos size (show (0 : Int) < 300 by omega); omega
  by_cases hlen : l.length ≤ 40
  · by_cases hlen' : l'.length ≤ 40
    · go_enter Tryd.func3, Tryd.ntmps3
      go_upto_region 5 with (first
        | (go_at_call 6; refine Calls.mono (new_ok w1 n (by omega)) ?_; rintro _ w2 ⟨tb, rfl, h5, h6, tg, h7, h8⟩; have HS2 : Hid (ST w2 tb tg n m0) := h7; have HG2 : Hid (Gn w1 w2) := h6; clear h6 h7)
        | (go_at_call 6; refine Calls.mono (new_ok w n (by omega)) ?_; rintro _ w1 ⟨sb, rfl, h1, h2, g, h3, h4⟩; have HS1 : Hid (ST w1 sb g n m0) := h3; have HG1 : Hid (Gn w w1) := h2; clear h2 h3))
      have H0 : Hid (Two w w2 sb g tb tg n m0 m0) := by
        have a1 := HS1.out.lt
        have a2 := HG1.out.size
        exact ⟨HS1.out.gn HG2.out, HS2.out, ⟨by omega, by omega, by omega⟩, ⟨h4, by omega⟩, HG1.out.trans HG2.out⟩
      clear HS1 HS2 HG1 HG2 h1 h4 h5 h8
      go_wp2
      go_loopw [10] (fun i wr => ∃ k : Nat, k ≤ l.length ∧ i = .int .i64 k ∧ Two w wr sb g tb tg n (gm n l k) m0) (fun i _ => l.length - (intOf i).toNat)
      case atStart => exact ⟨0, by omega, rfl, H0.out⟩
      case round =>
        clear H0
        obtain ⟨k, hk, rfl, hZ⟩ := hrel
        have HZ : Hid (Two w wr sb g tb tg n (gm n l k) m0) := hZ
        have HG : Hid (Gn w wr) := hZ.2.2.2.2
        clear hZ
        by_cases hkl : k < l.length
        · obtain ⟨b, off, cap, he, hb, hc⟩ := (HV.out.gn HG.out).row (by omega)
          cases he
          have ck := hc k hkl
          have hx := HL.out _ (nl_mem hkl)
          have HM : Hid (gm n l (k + 1) = putM (gm n l k) (nl l k % n)) := gm_succ n l k
          generalize nl l k = x at *
          obtain ⟨p, hp⟩ : ∃ p, x % n = p := ⟨_, rfl⟩
          have hpn : p < n := by rw [← hp]; exact Nat.mod_lt _ hn1
          rw [hp] at HM
          have q1 : (x : Int).tmod (n : Int) = (p : Int) := by rw [Int.tmod_eq_emod_of_nonneg (by omega), ← hp]; rfl
          have q2 : (x : Int) % (n : Int) = (p : Int) := by rw [← hp]; rfl
          have hnz : (0 : Int) < (n : Int) := by omega
          have hki : (k : Int) < (l.length : Int) := by omega
          clear hc hp
          go_wp2_with (go_at_call 7; refine Calls.mono (put_one HZ.out (by omega) hpn) ?_; rintro _ w3 ⟨⟨b3, rfl⟩, h3⟩; have HZ3 : Hid (Two w w3 sb g tb tg n (putM (gm n l k) p) m0) := h3; clear h3)
          go_roundw
          case rel => exact ⟨k + 1, by omega, by go_num, by rw [HM.out]; exact HZ3.out⟩
          case measure => simp [intOf]; omega
        · obtain rfl : k = l.length := by omega
          obtain ⟨wo, rfl⟩ : ∃ wo : World, wo = wr := ⟨_, rfl⟩
          have HGS : Hid (∀ i, i < l.length → gm n l l.length (nl l i % n) = true) := fun i hi => gm_has n l hi
          generalize gm n l l.length = m1 at *
          go_wp2
          go_loopw [11] (fun i wr => ∃ k : Nat, k ≤ l'.length ∧ i = .int .i64 k ∧ Two w wr sb g tb tg n m1 (gm n l' k)) (fun i _ => l'.length - (intOf i).toNat)
          case atStart => exact ⟨0, by omega, rfl, HZ.out⟩
          case round =>
            clear HZ HG
            obtain ⟨k, hk, rfl, hZ⟩ := hrel
            have HZ : Hid (Two w wr sb g tb tg n m1 (gm n l' k)) := hZ
            have HG : Hid (Gn w wr) := hZ.2.2.2.2
            clear hZ
            by_cases hkl : k < l'.length
            · obtain ⟨b, off, cap, he, hb, hc⟩ := (HV'.out.gn HG.out).row (by omega)
              cases he
              have ck := hc k hkl
              have hx := HL'.out _ (nl_mem hkl)
              have HM : Hid (gm n l' (k + 1) = putM (gm n l' k) (nl l' k % n)) := gm_succ n l' k
              generalize nl l' k = x at *
              obtain ⟨p, hp⟩ : ∃ p, x % n = p := ⟨_, rfl⟩
              have hpn : p < n := by rw [← hp]; exact Nat.mod_lt _ hn1
              rw [hp] at HM
              have q1 : (x : Int).tmod (n : Int) = (p : Int) := by rw [Int.tmod_eq_emod_of_nonneg (by omega), ← hp]; rfl
              have q2 : (x : Int) % (n : Int) = (p : Int) := by rw [← hp]; rfl
              have hnz : (0 : Int) < (n : Int) := by omega
              have hki : (k : Int) < (l'.length : Int) := by omega
              clear hc hp
              go_wp2_with (go_at_call 7; refine Calls.mono (put_two HZ.out (by omega) hpn) ?_; rintro _ w3 ⟨⟨b3, rfl⟩, h3⟩; have HZ3 : Hid (Two w w3 sb g tb tg n m1 (putM (gm n l' k) p)) := h3; clear h3)
              go_roundw
              case rel => exact ⟨k + 1, by omega, by go_num, by rw [HM.out]; exact HZ3.out⟩
              case measure => simp [intOf]; omega
            · obtain rfl : k = l'.length := by omega
              obtain ⟨wp, rfl⟩ : ∃ wp : World, wp = wr := ⟨_, rfl⟩
              generalize gm n l' l'.length = m2 at *
              have HTp : Hid (TabAt 0 Lib.deBruijn64tab wp) := tab_gn HT.out HG.out
              go_wp2
              go_loop [12] (fun i => ∃ k : Nat, k ≤ l.length ∧ i = .int .i64 k) (fun i => l.length - (intOf i).toNat)
              case atStart => exact ⟨0, by omega, rfl⟩
              case round =>
                obtain ⟨k, hk, rfl⟩ := hrel
                by_cases hkl : k < l.length
                · obtain ⟨b, off, cap, he, hb, hc⟩ := (HV.out.gn HG.out).row (by omega)
                  cases he
                  have ck := hc k hkl
                  have hx := HL.out _ (nl_mem hkl)
                  have hmp := HGS.out k hkl
                  generalize nl l k = x at *
                  obtain ⟨p, hp⟩ : ∃ p, x % n = p := ⟨_, rfl⟩
                  have hpn : p < n := by rw [← hp]; exact Nat.mod_lt _ hn1
                  rw [hp] at hmp
                  have q1 : (x : Int).tmod (n : Int) = (p : Int) := by rw [Int.tmod_eq_emod_of_nonneg (by omega), ← hp]; rfl
                  have q2 : (x : Int) % (n : Int) = (p : Int) := by rw [← hp]; rfl
                  have hnz : (0 : Int) < (n : Int) := by omega
                  have hki : (k : Int) < (l.length : Int) := by omega
                  have F1 : Hid (Calls Tryd.prog 8 #[.pointer (some ⟨sb, 0, none⟩), .int .i64 (p : Int)] wp fun e w' => e = .returned (.bool true) ∧ wp = w') := by
                    have := has_in wp sb g n m1 p HZ.out.1 (by omega) hpn
                    rw [hmp] at this
                    exact this
                  have hcp : cnt m1 p ≤ 300 := Nat.le_trans (cnt_le m1 p) (by omega)
                  have F2 : Hid (Calls Tryd.prog 10 #[.pointer (some ⟨sb, 0, none⟩), .int .i64 (p : Int)] wp fun e w' => e = .returned (.int .i64 (cnt m1 p)) ∧ wp = w') := by
                    have := rank_any wp sb g n m1 p HZ.out.1 (by omega)
                    rw [below_in (by omega)] at this
                    exact this
                  have F3 : Hid (Calls Tryd.prog 9 #[.pointer (some ⟨sb, 0, none⟩), .int .i64 (cnt m1 p : Nat)] wp fun e w' => e = .returned (.int .i64 (p : Int)) ∧ wp = w') := by
                    have := nth_at wp sb g n m1 (cnt m1 p) HZ.out.1 (by omega) HTp.out (by omega)
                    rw [ati_rank hmp hpn] at this
                    exact this
                  have F4 : Hid (Calls Tryd.prog 11 #[.pointer (some ⟨sb, 0, none⟩), .int .i64 (p : Int)] wp fun e w' => e = .returned (.int .i64 (p : Int)) ∧ wp = w') := by
                    have := next_any wp sb g n m1 p HZ.out.1 (by omega) HTp.out (by omega)
                    rw [show ((p : Int)).toNat = p by omega, nx_self hmp hpn] at this
                    exact this
                  clear hc hp hmp
                  generalize cnt m1 p = r at *
                  go_wp2_with (first | (go_at_call 8; refine Calls.mono F1.out ?_; rintro _ _ ⟨rfl, rfl⟩) | (go_at_call 10; refine Calls.mono F2.out ?_; rintro _ _ ⟨rfl, rfl⟩) | (go_at_call 9; refine Calls.mono F3.out ?_; rintro _ _ ⟨rfl, rfl⟩) | (go_at_call 11; refine Calls.mono F4.out ?_; rintro _ _ ⟨rfl, rfl⟩))
                  go_round
                  case rel => exact ⟨k + 1, by omega, by go_num⟩
                  case measure => simp [intOf]; omega
                · obtain rfl : k = l.length := by omega
                  go_upto_region 22 with (first
                    | (go_at_call 14; refine Calls.mono (less_ok w7 tb tg sb g n m2 m1 (HZ.out.2.1.gn (HG5.out.trans (HG6.out.trans HG7.out))) (HZ.out.1.gn (HG5.out.trans (HG6.out.trans HG7.out))) (by omega)) ?_; rintro _ w8 ⟨xb, rfl, h1, h2, xg, h3, h4⟩; have HX8 : Hid (ST w8 xb xg n (mb31 m2 m1)) := h3; have HG8 : Hid (Gn w7 w8) := h2; clear h1 h2 h3 h4)
                    | (go_at_call 14; refine Calls.mono (less_ok w6 sb g tb tg n m1 m2 (HZ.out.1.gn (HG5.out.trans HG6.out)) (HZ.out.2.1.gn (HG5.out.trans HG6.out)) (by omega)) ?_; rintro _ w7 ⟨wb, rfl, h1, h2, wg, h3, h4⟩; have HW7 : Hid (ST w7 wb wg n (mb31 m1 m2)) := h3; have HG7 : Hid (Gn w6 w7) := h2; clear h1 h2 h3 h4)
                    | (go_at_call 13; refine Calls.mono (meet_ok w5 sb g tb tg n m1 m2 (HZ.out.1.gn HG5.out) (HZ.out.2.1.gn HG5.out) (by omega)) ?_; rintro _ w6 ⟨vb, rfl, h1, h2, vg, h3, h4⟩; have HV6 : Hid (ST w6 vb vg n (mb30 m1 m2)) := h3; have HG6 : Hid (Gn w5 w6) := h2; clear h1 h2 h3 h4)
                    | (go_at_call 12; refine Calls.mono (union_ok wp sb g tb tg n m1 m2 HZ.out.1 HZ.out.2.1 (by omega)) ?_; rintro _ w5 ⟨ub, rfl, h1, h2, ug, h3, h4⟩; have HU5 : Hid (ST w5 ub ug n (mb29 m1 m2)) := h3; have HG5 : Hid (Gn wp w5) := h2; clear h1 h2 h3 h4))
                  have SA : Hid (ST w8 sb g n m1) := (HZ.out.1.gn (HG5.out.trans (HG6.out.trans (HG7.out.trans HG8.out))))
                  have LA : Hid (∀ w', Gn w8 w' → Calls Tryd.prog 15 #[.pointer (some ⟨sb, 0, none⟩)] w' fun e w'' => e = .returned (.int .i64 (cnt m1 n)) ∧ w' = w'') := fun w' hg => len_any w' sb g n m1 (SA.out.gn hg) (by omega)
                  have bA : cnt m1 n ≤ 300 := Nat.le_trans (cnt_le _ _) hn300
                  have SB : Hid (ST w8 tb tg n m2) := (HZ.out.2.1.gn (HG5.out.trans (HG6.out.trans (HG7.out.trans HG8.out))))
                  have LB : Hid (∀ w', Gn w8 w' → Calls Tryd.prog 15 #[.pointer (some ⟨tb, 0, none⟩)] w' fun e w'' => e = .returned (.int .i64 (cnt m2 n)) ∧ w' = w'') := fun w' hg => len_any w' tb tg n m2 (SB.out.gn hg) (by omega)
                  have bB : cnt m2 n ≤ 300 := Nat.le_trans (cnt_le _ _) hn300
                  have SU : Hid (ST w8 ub ug n (mb29 m1 m2)) := (HU5.out.gn (HG6.out.trans (HG7.out.trans HG8.out)))
                  have LU : Hid (∀ w', Gn w8 w' → Calls Tryd.prog 15 #[.pointer (some ⟨ub, 0, none⟩)] w' fun e w'' => e = .returned (.int .i64 (cnt (mb29 m1 m2) n)) ∧ w' = w'') := fun w' hg => len_any w' ub ug n (mb29 m1 m2) (SU.out.gn hg) (by omega)
                  have bU : cnt (mb29 m1 m2) n ≤ 300 := Nat.le_trans (cnt_le _ _) hn300
                  have SV : Hid (ST w8 vb vg n (mb30 m1 m2)) := (HV6.out.gn (HG7.out.trans HG8.out))
                  have LV : Hid (∀ w', Gn w8 w' → Calls Tryd.prog 15 #[.pointer (some ⟨vb, 0, none⟩)] w' fun e w'' => e = .returned (.int .i64 (cnt (mb30 m1 m2) n)) ∧ w' = w'') := fun w' hg => len_any w' vb vg n (mb30 m1 m2) (SV.out.gn hg) (by omega)
                  have bV : cnt (mb30 m1 m2) n ≤ 300 := Nat.le_trans (cnt_le _ _) hn300
                  have SW : Hid (ST w8 wb wg n (mb31 m1 m2)) := (HW7.out.gn HG8.out)
                  have LW : Hid (∀ w', Gn w8 w' → Calls Tryd.prog 15 #[.pointer (some ⟨wb, 0, none⟩)] w' fun e w'' => e = .returned (.int .i64 (cnt (mb31 m1 m2) n)) ∧ w' = w'') := fun w' hg => len_any w' wb wg n (mb31 m1 m2) (SW.out.gn hg) (by omega)
                  have bW : cnt (mb31 m1 m2) n ≤ 300 := Nat.le_trans (cnt_le _ _) hn300
                  have SX : Hid (ST w8 xb xg n (mb31 m2 m1)) := HX8.out
                  have LX : Hid (∀ w', Gn w8 w' → Calls Tryd.prog 15 #[.pointer (some ⟨xb, 0, none⟩)] w' fun e w'' => e = .returned (.int .i64 (cnt (mb31 m2 m1) n)) ∧ w' = w'') := fun w' hg => len_any w' xb xg n (mb31 m2 m1) (SX.out.gn hg) (by omega)
                  have bX : cnt (mb31 m2 m1) n ≤ 300 := Nat.le_trans (cnt_le _ _) hn300
                  have HT8 : Hid (TabAt 0 Lib.deBruijn64tab w8) := tab_gn HTp.out (HG5.out.trans (HG6.out.trans (HG7.out.trans HG8.out)))
                  have RA : Hid (∀ w', Gn w8 w' → Calls Tryd.prog 10 #[.pointer (some ⟨sb, 0, none⟩), .int .i64 (n : Int)] w' fun e w'' => e = .returned (.int .i64 (cnt m1 n)) ∧ w' = w'') := fun w' hg => by
                    have := rank_any w' sb g n m1 n (SA.out.gn hg) (by omega)
                    rw [below_in (Nat.le_refl _)] at this
                    exact this
                  have NA : Hid (∀ w', Gn w8 w' → Calls Tryd.prog 9 #[.pointer (some ⟨sb, 0, none⟩), .int .i64 (cnt m1 n : Nat)] w' fun e w'' => e = .returned (.int .i64 (-1)) ∧ w' = w'') := fun w' hg => by
                    have := nth_at w' sb g n m1 (cnt m1 n) (SA.out.gn hg) (by omega) (tab_gn HT8.out hg) (by omega)
                    rw [ati_none (by rw [lst_len]; exact Nat.le_refl _)] at this
                    exact this
                  obtain ⟨s1, s2, s3⟩ := cnt_sum m1 m2 n
                  have MY : Hid (Calls Tryd.prog 13 #[.pointer (some ⟨wb, 0, none⟩), .pointer (some ⟨xb, 0, none⟩)] w8 fun e w' => ∃ sc, e = .returned (.pointer (some ⟨sc, 0, none⟩)) ∧ w8.heap.size ≤ sc ∧ Gn w8 w' ∧ ∃ g', ST w' sc g' n (mb30 (mb31 m1 m2) (mb31 m2 m1)) ∧ w8.heap.size ≤ g') := meet_ok w8 wb wg xb xg n _ _ SW.out SX.out (by omega)
                  have S3 : Hid (cnt (mb30 (mb31 m1 m2) (mb31 m2 m1)) n = 0) := s3
                  have HGall : Hid (Gn w w8) := HG.out.trans (HG5.out.trans (HG6.out.trans (HG7.out.trans HG8.out)))
                  clear s3 SA SB SU SV SW SX HU5 HV6 HW7 HX8
                  generalize cnt m1 n = cA at *
                  generalize cnt m2 n = cB at *
                  generalize cnt (mb29 m1 m2) n = cU at *
                  generalize cnt (mb30 m1 m2) n = cV at *
                  generalize cnt (mb31 m1 m2) n = cW at *
                  generalize cnt (mb31 m2 m1) n = cX at *
                  have t1 : (((cA : Int) + (cB : Int)) == ((cU : Int) + (cV : Int))) = true := by simp; omega
                  have t2 : (((cW : Int) + (cX : Int) + (cV : Int)) == (cU : Int)) = true := by simp; omega
                  clear s1 s2
                  go_wp2_with (first
                    | (go_at_call_of 15 (Value.pointer (some ⟨sb, 0, none⟩)); refine Calls.mono (LA.out _ HG9.out) ?_; rintro _ _ ⟨rfl, rfl⟩)
                    | (go_at_call_of 15 (Value.pointer (some ⟨tb, 0, none⟩)); refine Calls.mono (LB.out _ HG9.out) ?_; rintro _ _ ⟨rfl, rfl⟩)
                    | (go_at_call_of 15 (Value.pointer (some ⟨ub, 0, none⟩)); refine Calls.mono (LU.out _ HG9.out) ?_; rintro _ _ ⟨rfl, rfl⟩)
                    | (go_at_call_of 15 (Value.pointer (some ⟨vb, 0, none⟩)); refine Calls.mono (LV.out _ HG9.out) ?_; rintro _ _ ⟨rfl, rfl⟩)
                    | (go_at_call_of 15 (Value.pointer (some ⟨wb, 0, none⟩)); refine Calls.mono (LW.out _ HG9.out) ?_; rintro _ _ ⟨rfl, rfl⟩)
                    | (go_at_call_of 15 (Value.pointer (some ⟨xb, 0, none⟩)); refine Calls.mono (LX.out _ HG9.out) ?_; rintro _ _ ⟨rfl, rfl⟩)
                    | (go_at_call_of 10 (Value.pointer (some ⟨sb, 0, none⟩)); refine Calls.mono (RA.out _ HG9.out) ?_; rintro _ _ ⟨rfl, rfl⟩)
                    | (go_at_call_of 9 (Value.pointer (some ⟨sb, 0, none⟩)); refine Calls.mono (NA.out _ HG9.out) ?_; rintro _ _ ⟨rfl, rfl⟩)
                    | (go_at_call_of 15 (Value.pointer (some ⟨sb, 0, none⟩)); refine Calls.mono (LA.out _ (Gn.refl _)) ?_; rintro _ _ ⟨rfl, rfl⟩)
                    | (go_at_call_of 15 (Value.pointer (some ⟨tb, 0, none⟩)); refine Calls.mono (LB.out _ (Gn.refl _)) ?_; rintro _ _ ⟨rfl, rfl⟩)
                    | (go_at_call_of 15 (Value.pointer (some ⟨ub, 0, none⟩)); refine Calls.mono (LU.out _ (Gn.refl _)) ?_; rintro _ _ ⟨rfl, rfl⟩)
                    | (go_at_call_of 15 (Value.pointer (some ⟨vb, 0, none⟩)); refine Calls.mono (LV.out _ (Gn.refl _)) ?_; rintro _ _ ⟨rfl, rfl⟩)
                    | (go_at_call_of 15 (Value.pointer (some ⟨wb, 0, none⟩)); refine Calls.mono (LW.out _ (Gn.refl _)) ?_; rintro _ _ ⟨rfl, rfl⟩)
                    | (go_at_call_of 15 (Value.pointer (some ⟨xb, 0, none⟩)); refine Calls.mono (LX.out _ (Gn.refl _)) ?_; rintro _ _ ⟨rfl, rfl⟩)
                    | (go_at_call_of 10 (Value.pointer (some ⟨sb, 0, none⟩)); refine Calls.mono (RA.out _ (Gn.refl _)) ?_; rintro _ _ ⟨rfl, rfl⟩)
                    | (go_at_call_of 9 (Value.pointer (some ⟨sb, 0, none⟩)); refine Calls.mono (NA.out _ (Gn.refl _)) ?_; rintro _ _ ⟨rfl, rfl⟩)
                    | (go_at_call 15; refine Calls.mono (LY.out) ?_; rintro _ _ ⟨rfl, rfl⟩)
                    | (go_at_call 13; refine Calls.mono MY.out ?_; rintro _ w9 ⟨yb, rfl, h1, h2, yg, h3, h4⟩; have HG9 : Hid (Gn w8 w9) := h2; have LY : Hid (Calls Tryd.prog 15 #[.pointer (some ⟨yb, 0, none⟩)] w9 fun e w' => e = .returned (.int .i64 0) ∧ w9 = w') := (by have hh := len_any w9 yb yg n _ h3 (by omega); rw [S3.out] at hh; exact hh); clear h1 h2 h3 h4)
                    | (go_at_call 5; refine Calls.mono (awake_any _ (tab_gn HT8.out HG9.out)) ?_; rintro _ wa ⟨rfl, h1⟩; have HGa : Hid (Gn w9 wa) := h1; clear h1))
                  go_ret
                  exact ⟨rfl, HGall.out.trans (HG9.out.trans HGa.out)⟩
    · have hg : (40 : Int) < (l'.length : Int) := by omega
      have hg2 : ¬ (40 : Int) < (l.length : Int) := by omega
      go_enter Tryd.func3, Tryd.ntmps3
      go_wp2_with (go_at_call 5; refine Calls.mono (awake_any _ HT.out) ?_; rintro _ w1 ⟨rfl, h1⟩; have HG1 : Hid (Gn w w1) := h1; clear h1)
      go_ret
      exact ⟨rfl, HG1.out⟩
  · have hg : (40 : Int) < (l.length : Int) := by omega
    go_enter Tryd.func3, Tryd.ntmps3
    go_wp2_with (go_at_call 5; refine Calls.mono (awake_any _ HT.out) ?_; rintro _ w1 ⟨rfl, h1⟩; have HG1 : Hid (Gn w w1) := h1; clear h1)
    go_ret
    exact ⟨rfl, HG1.out⟩
end Go.Proofs.YtoaefmnjndklkaaDoor
