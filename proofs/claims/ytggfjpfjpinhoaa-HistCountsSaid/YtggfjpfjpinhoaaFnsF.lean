/- Add of two histograms. -/
import Derived.Test.YtggfjpfjpinhoaaFnsE
namespace Go.Proofs.Ytggfjpfjpinhoaa
open Go.RowKit

theorem add_nil (v : Value) (hv : ∃ o, v = .pointer o) (w : World) : Calls Try.prog 7 #[.pointer none, v] w fun e w' => (∃ y, e = .returned y) ∧ Gn w w' := by
  obtain ⟨o, rfl⟩ := hv
  go_enter Try.func7, Try.ntmps7
  go_wp2
  refine bodyPost_ret (results_none rfl _ _ _) rfl ?_
  exact ⟨⟨_, rfl⟩, Gn.refl _⟩
theorem add_none (hb : Nat) (w : World) : Calls Try.prog 7 #[.pointer (some ⟨hb, 0, none⟩), .pointer none] w fun e w' => (∃ y, e = .returned y) ∧ Gn w w' := by
  go_enter Try.func7, Try.ntmps7
  go_wp2_with (go_at_call 12; refine (count_nil _).mono ?_; rintro e w' ⟨rfl, rfl⟩)
  refine bodyPost_ret (results_none rfl _ _ _) rfl ?_
  exact ⟨⟨_, rfl⟩, Gn.refl _⟩
theorem add_empty (hb ob : Nat) (l' m' : Int) (w : World) (h : Hi w ob [] l' m') : Calls Try.prog 7 #[.pointer (some ⟨hb, 0, none⟩), .pointer (some ⟨ob, 0, none⟩)] w fun e w' => (∃ y, e = .returned y) ∧ Gn w w' := by
  have H : Hid _ := h
  clear h
  go_enter Try.func7, Try.ntmps7
  go_wp2_with (go_at_call 12; refine (count_is _ H.out).mono ?_; rintro e w' ⟨rfl, rfl⟩)
  refine bodyPost_ret (results_none rfl _ _ _) rfl ?_
  exact ⟨⟨_, rfl⟩, Gn.refl _⟩

/-- The cells while the rows are added. -/
def adF (f : Nat → Int) (ys : List Int) (k j : Nat) : Int := if j < k then f j + cW ys j else f j
theorem add_eq (xs ys : List Int) (l m l1 m1 : Int) (hx : Ok xs) (hy : Ok ys) (f : Nat → Int) (h66 : f 66 = l1) (h67 : f 67 = m1) (hf5 : ∀ j, j < 66 → f j = hf xs l m j) (S : Int) (hS : S = sat (sm xs) + min (sat (sm ys)) (4611686018427387904 - sat (sm xs))) :
    ∀ j, j < 68 → (if j = 65 then S else if j = 64 then (xs.length : Int) + (ys.length : Int) else adF f ys 64 j) = hf (xs ++ ys) l1 m1 j := by
  intro j hj
  unfold hf adF
  rcases Nat.lt_or_ge j 64 with h1 | h1
  · rw [if_neg (by omega), if_neg (by omega), if_pos h1, if_pos h1, cW_append, hf5 j (by omega)]
    unfold hf
    rw [if_pos h1]
    omega
  · rw [if_neg (show ¬ j < 64 by omega), if_neg (show ¬ j < 64 by omega)]
    have hj' : j = 64 ∨ j = 65 ∨ j = 66 ∨ j = 67 := by omega
    rcases hj' with rfl | rfl | rfl | rfl
    · simp
    · rw [if_pos rfl, if_neg (by omega), if_pos rfl, hS, sm_append]
      exact sat_add2 (sm_nonneg hx) (sm_nonneg hy)
    · simp [h66]
    · simp [h67]

set_option maxHeartbeats 8000000 in
set_option maxRecDepth 100000 in
theorem add_is (hb ob : Nat) (xs ys : List Int) (l m l' m' : Int) (w : World) (h : Hi w hb xs l m) (ho : Hi w ob ys l' m') (hne : ob ≠ hb) (h0y : 0 < ys.length) (hlen : xs.length + ys.length ≤ 1000) :
    Calls Try.prog 7 #[.pointer (some ⟨hb, 0, none⟩), .pointer (some ⟨ob, 0, none⟩)] w fun e w' => (∃ y, e = .returned y) ∧ (∃ l1 m1, Hi w' hb (xs ++ ys) l1 m1) ∧ Kp (fun j => j = hb) w w' := by
  obtain ⟨hl, ⟨c0, c1, c2, c3⟩, f0, f1, f2, f3⟩ := h.facts
  obtain ⟨ol, ⟨o0, o1, o2, o3⟩, _⟩ := ho.facts
  have hyn : ys ≠ [] := by rintro rfl; simp at h0y
  have hends := h.ends.append ho.ends hyn ho.ok
  have hzy : ((ys.length : Int) == 0) = false := by simp; exact hyn
  have H : Hid _ := h
  have HO : Hid _ := ho
  have HE : Hid _ := hends
  have hsb := sat_bd (sm_nonneg h.ok)
  have hsy := sat_bd (sm_nonneg ho.ok)
  have hne2 : ¬ hb = ob := fun e => hne e.symm
  clear h ho hends hyn
  obtain ⟨S, hS⟩ : ∃ S, sat (sm xs) = S := ⟨_, rfl⟩
  obtain ⟨SY, hSY⟩ : ∃ S, sat (sm ys) = S := ⟨_, rfl⟩
  rw [hS] at c1 hsb
  rw [hSY] at o1 hsy
  have HS : Hid _ := hS
  have HSY : Hid _ := hSY
  clear hS hSY
  by_cases h0 : xs.length = 0
  · have hz : ((xs.length : Int) == 0) = true := by simp; exact List.length_eq_zero_iff.1 h0
    have hl2 : (if xs.length = 0 ∨ l' < l then l' else l) = l' := if_pos (.inl h0)
    have HL2 : Hid _ := hl2
    clear h0 hl2
    go_enter Try.func7, Try.ntmps7
    go_wp2_with (go_at_call 12; refine (count_is _ HO.out).mono ?_; rintro e w' ⟨rfl, rfl⟩)
    refine wp_region_gr (by kernel_rfl) (by kernel_rfl) ?_
    repeat (go_big_quiet_step (fail))
    refine wpQuiet_nil ?_
    rintro _ ⟨q1, rfl⟩
    go_wp2
    have H5 : ∃ f : Nat → Int, Nums ((w.setCell ⟨hb, 66, none⟩ (.int .i64 l')).gr q1) hb 68 f ∧ f 66 = (l') ∧ (∀ j, j < 68 → j ≠ 66 → f j = hf xs l m j) ∧ Kp (fun j => j = hb) w ((w.setCell ⟨hb, 66, none⟩ (.int .i64 l')).gr q1) :=
      ⟨_, ((show Hi w hb xs l m from H.out).nums.set 66 l').grown (Gn.gr (Gn.refl _) _), by simp, fun j hj hj2 => by simp [hj2], ((Kp.refl (fun j => j = hb) w).set hb 66 _ rfl).gn (Gn.gr (Gn.refl _) _)⟩
    generalize ((w.setCell ⟨hb, 66, none⟩ (.int .i64 l')).gr q1) = w5 at *
    obtain ⟨f, hN, h66, hf5, hK⟩ := H5
    have hNo : Nums w5 ob 68 (hf ys l' m') := (show Hi w ob ys l' m' from HO.out).nums.kept hK hne
    have c67 := (hN.2 67 (by omega)).1
    rw [hf5 67 (by omega) (by omega), show hf xs l m 67 = m by simp [hf]] at c67
    have f67 := (hN.2 67 (by omega)).2
    have o67 := (hNo.2 67 (by omega)).1
    rw [show hf ys l' m' 67 = m' by simp [hf]] at o67
    have hl5 := hN.1
    have ol5 := hNo.1
    have HN : Hid _ := hN
    have HNO : Hid _ := hNo
    have H66 : Hid _ := h66
    have HF5 : Hid _ := hf5
    have HK : Hid _ := hK
    clear hN hNo h66 hf5 hK c0 c1 c2 c3 f0 f1 f2 f3 hl o0 o1 o2 o3 ol
    refine wp_region_z 12 13 (by kernel_rfl) rfl ?_
    refine wpMix_pick 0 (by kernel_rfl) rfl (by kernel_rfl) (by with_reducible (repeat (first | exact Gn.refl _ | refine Gn.gr ?_ _ | refine Gn.alloc ?_ _ | refine Gn.drew ?_))) (by kernel_rfl) (fun K hK => ?_); go_simp; first | (refine hK _ ?_; clear hK K) | (apply Exists.intro; refine ⟨fun _ => ?_, hK _ ?_⟩; first | (fail); clear hK K)
    refine wpMix_pick 1 (by kernel_rfl) rfl (by kernel_rfl) (by with_reducible (repeat (first | exact Gn.refl _ | refine Gn.gr ?_ _ | refine Gn.alloc ?_ _ | refine Gn.drew ?_))) (by kernel_rfl) (fun K hK => ?_); go_simp; first | (refine hK _ ?_; clear hK K) | (apply Exists.intro; refine ⟨fun _ => ?_, hK _ ?_⟩; first | (fail); clear hK K)
    refine wpMix_pick 2 (by kernel_rfl) rfl (by kernel_rfl) (by with_reducible (repeat (first | exact Gn.refl _ | refine Gn.gr ?_ _ | refine Gn.alloc ?_ _ | refine Gn.drew ?_))) (by kernel_rfl) (fun K hK => ?_); go_simp; first | (refine hK _ ?_; clear hK K) | (apply Exists.intro; refine ⟨fun _ => ?_, hK _ ?_⟩; first | (fail); clear hK K)
    refine wpMix_pick 3 (by kernel_rfl) rfl (by kernel_rfl) (by with_reducible (repeat (first | exact Gn.refl _ | refine Gn.gr ?_ _ | refine Gn.alloc ?_ _ | refine Gn.drew ?_))) (by kernel_rfl) (fun K hK => ?_); go_simp; first | (refine hK _ ?_; clear hK K) | (apply Exists.intro; refine ⟨fun _ => ?_, hK _ ?_⟩; first | (fail); clear hK K)
    refine wpMix_pick 4 (by kernel_rfl) rfl (by kernel_rfl) (by with_reducible (repeat (first | exact Gn.refl _ | refine Gn.gr ?_ _ | refine Gn.alloc ?_ _ | refine Gn.drew ?_))) (by kernel_rfl) (fun K hK => ?_); go_simp; first | (refine hK _ ?_; clear hK K) | (apply Exists.intro; refine ⟨fun _ => ?_, hK _ ?_⟩; first | (fail); clear hK K)
    refine wpMix_pick 5 (by kernel_rfl) rfl (by kernel_rfl) (by with_reducible (repeat (first | exact Gn.refl _ | refine Gn.gr ?_ _ | refine Gn.alloc ?_ _ | refine Gn.drew ?_))) (by kernel_rfl) (fun K hK => ?_); go_simp; first | (refine hK _ ?_; clear hK K) | (apply Exists.intro; refine ⟨fun _ => ?_, hK _ ?_⟩; first | (fail); clear hK K)
    refine wpMix_pick 6 (by kernel_rfl) rfl (by kernel_rfl) (by with_reducible (repeat (first | exact Gn.refl _ | refine Gn.gr ?_ _ | refine Gn.alloc ?_ _ | refine Gn.drew ?_))) (by kernel_rfl) (fun K hK => ?_); go_simp; first | (refine hK _ ?_; clear hK K) | (apply Exists.intro; refine ⟨fun _ => ?_, hK _ ?_⟩; first | (fail); clear hK K)
    refine wpMix_pick 7 (by kernel_rfl) rfl (by kernel_rfl) (by with_reducible (repeat (first | exact Gn.refl _ | refine Gn.gr ?_ _ | refine Gn.alloc ?_ _ | refine Gn.drew ?_))) (by kernel_rfl) (fun K hK => ?_); go_simp; first | (refine hK _ ?_; clear hK K) | (apply Exists.intro; refine ⟨fun _ => ?_, hK _ ?_⟩; first | (fail); clear hK K)
    refine wpMix_pick 8 (by kernel_rfl) rfl (by kernel_rfl) (by with_reducible (repeat (first | exact Gn.refl _ | refine Gn.gr ?_ _ | refine Gn.alloc ?_ _ | refine Gn.drew ?_))) (by kernel_rfl) (fun K hK => ?_); go_simp; first | (refine hK _ ?_; clear hK K) | (apply Exists.intro; refine ⟨fun _ => ?_, hK _ ?_⟩; first | (fail); clear hK K)
    refine wpMix_pick 9 (by kernel_rfl) rfl (by kernel_rfl) (by with_reducible (repeat (first | exact Gn.refl _ | refine Gn.gr ?_ _ | refine Gn.alloc ?_ _ | refine Gn.drew ?_))) (by kernel_rfl) (fun K hK => ?_); go_simp; first | (refine hK _ ?_; clear hK K) | (apply Exists.intro; refine ⟨fun _ => ?_, hK _ ?_⟩; first | (fail); clear hK K)
    refine wpMix_one (i := 10) (by kernel_rfl) rfl ?_
    intro p10
    go_wp2
    refine ⟨(by with_reducible (repeat (first | exact Gn.refl _ | refine Gn.gr ?_ _ | refine Gn.alloc ?_ _ | refine Gn.drew ?_))), ?_⟩
    refine wpMix_one (i := 11) (by kernel_rfl) rfl ?_
    intro p11
    go_wp2
    refine ⟨(by with_reducible (repeat (first | exact Gn.refl _ | refine Gn.gr ?_ _ | refine Gn.alloc ?_ _ | refine Gn.drew ?_))), ?_⟩
    refine wpMix_one (i := 12) (by kernel_rfl) rfl ?_
    intro p12
    go_wp2
    refine wpMix_done (by kernel_rfl) ?_
    intro pz
    have H7 : ∃ f7 : Nat → Int, Nums (((w5.setCell ⟨hb, 67, none⟩ (.int .i64 (max m m'))).gr ⟨p12.d, p10.os ++ (p11.os ++ p12.os)⟩).gr pz) hb 68 f7 ∧ f7 66 = l' ∧ f7 67 = max m m' ∧ (∀ j, j < 66 → f7 j = hf xs l m j) ∧ Kp (fun j => j = hb) w (((w5.setCell ⟨hb, 67, none⟩ (.int .i64 (max m m'))).gr ⟨p12.d, p10.os ++ (p11.os ++ p12.os)⟩).gr pz) :=
      ⟨_, ((show Nums w5 hb 68 f from HN.out).set 67 (max m m')).grown (Gn.gr (Gn.gr (Gn.refl _) _) _), by simp; exact H66.out, by simp, fun j hj => by simp [show ¬ j = 67 by omega]; exact HF5.out j (by omega) (by omega), ((show Kp (fun j => j = hb) w w5 from HK.out).set hb 67 _ rfl).gn (Gn.gr (Gn.gr (Gn.refl _) _) _)⟩
    clear HN HNO H66 HF5 HK c67 f67 o67 hl5 ol5
    generalize (((w5.setCell ⟨hb, 67, none⟩ (.int .i64 (max m m'))).gr ⟨p12.d, p10.os ++ (p11.os ++ p12.os)⟩).gr pz) = w7 at *
    obtain ⟨f7, hN, h66, h67, hf7, hK⟩ := H7
    have hNo : Nums w7 ob 68 (hf ys l' m') := (show Hi w ob ys l' m' from HO.out).nums.kept hK hne
    have HN : Hid _ := hN
    have HNO : Hid _ := hNo
    have H66 : Hid _ := h66
    have H67 : Hid _ := h67
    have HF7 : Hid _ := hf7
    have HK : Hid _ := hK
    have ol7 := hNo.1
    clear hN hNo h66 h67 hf7 hK
    go_wp2_with (refine wpList_load_arr rfl _ rfl ob rfl (fun j => .int .i64 (cW ys j : Int)) (fun j hj => by have hh := ((show Nums w7 ob 68 (hf ys l' m') from HNO.out).2 j (by omega)).1; unfold hf at hh; rw [if_pos hj] at hh; exact hh) ?_; intro A hA; have HA : Hid _ := hA; clear hA)
    go_loopw [52] (fun i wr => ∃ k : Nat, k ≤ 64 ∧ i = .int .i64 k ∧ Nums wr hb 68 (adF f7 ys k) ∧ Kp (fun j => j = hb) w7 wr) (fun i _ => 64 - (intOf i).toNat)
    case atStart => exact ⟨0, by omega, rfl, (show Nums w7 hb 68 f7 from HN.out).congr (fun j _ => by simp [adF]), Kp.refl _ _⟩
    case round =>
      obtain ⟨k, hk, rfl, hN, hK⟩ := hrel
      by_cases hlt : k < 64
      · have hix := run_index_arr A k (cW ys k : Int) hlt (HA.out k hlt)
        have cr := (hN.2 k (by omega)).1
        rw [show adF f7 ys k k = (cW xs k : Int) by unfold adF; rw [if_neg (by omega), HF7.out k (by omega)]; unfold hf; rw [if_pos hlt]] at cr
        have fr := (hN.2 k (by omega)).2
        have hlr := hN.1
        have b1 := cW_le xs k
        have b2 := cW_le ys k
        have hki : (k : Int) < 64 := by omega
        have HN2 : Hid _ := hN
        have HK2 : Hid _ := hK
        clear hN hK
        go_wp2
        refine wp_region_z 11 12 (by kernel_rfl) rfl ?_
        refine wpMix_pick 0 (by kernel_rfl) rfl (by kernel_rfl) (by with_reducible (repeat (first | exact Gn.refl _ | refine Gn.gr ?_ _ | refine Gn.alloc ?_ _ | refine Gn.drew ?_))) (by kernel_rfl) (fun K hK => ?_); go_simp; first | (refine hK _ ?_; clear hK K) | (apply Exists.intro; refine ⟨fun _ => ?_, hK _ ?_⟩; first | (fail); clear hK K)
        refine wpMix_pick 1 (by kernel_rfl) rfl (by kernel_rfl) (by with_reducible (repeat (first | exact Gn.refl _ | refine Gn.gr ?_ _ | refine Gn.alloc ?_ _ | refine Gn.drew ?_))) (by kernel_rfl) (fun K hK => ?_); go_simp; first | (refine hK _ ?_; clear hK K) | (apply Exists.intro; refine ⟨fun _ => ?_, hK _ ?_⟩; first | (fail); clear hK K)
        refine wpMix_pick 2 (by kernel_rfl) rfl (by kernel_rfl) (by with_reducible (repeat (first | exact Gn.refl _ | refine Gn.gr ?_ _ | refine Gn.alloc ?_ _ | refine Gn.drew ?_))) (by kernel_rfl) (fun K hK => ?_); go_simp; first | (refine hK _ ?_; clear hK K) | (apply Exists.intro; refine ⟨fun _ => ?_, hK _ ?_⟩; first | (fail); clear hK K)
        refine wpMix_pick 3 (by kernel_rfl) rfl (by kernel_rfl) (by with_reducible (repeat (first | exact Gn.refl _ | refine Gn.gr ?_ _ | refine Gn.alloc ?_ _ | refine Gn.drew ?_))) (by kernel_rfl) (fun K hK => ?_); go_simp; first | (refine hK _ ?_; clear hK K) | (apply Exists.intro; refine ⟨fun _ => ?_, hK _ ?_⟩; first | (fail); clear hK K)
        refine wpMix_pick 4 (by kernel_rfl) rfl (by kernel_rfl) (by with_reducible (repeat (first | exact Gn.refl _ | refine Gn.gr ?_ _ | refine Gn.alloc ?_ _ | refine Gn.drew ?_))) (by kernel_rfl) (fun K hK => ?_); go_simp; first | (refine hK _ ?_; clear hK K) | (apply Exists.intro; refine ⟨fun _ => ?_, hK _ ?_⟩; first | (fail); clear hK K)
        refine wpMix_pick 5 (by kernel_rfl) rfl (by kernel_rfl) (by with_reducible (repeat (first | exact Gn.refl _ | refine Gn.gr ?_ _ | refine Gn.alloc ?_ _ | refine Gn.drew ?_))) (by kernel_rfl) (fun K hK => ?_); go_simp; first | (refine hK _ ?_; clear hK K) | (apply Exists.intro; refine ⟨fun _ => ?_, hK _ ?_⟩; first | (fail); clear hK K)
        refine wpMix_pick 6 (by kernel_rfl) rfl (by kernel_rfl) (by with_reducible (repeat (first | exact Gn.refl _ | refine Gn.gr ?_ _ | refine Gn.alloc ?_ _ | refine Gn.drew ?_))) (by kernel_rfl) (fun K hK => ?_); go_simp; first | (refine hK _ ?_; clear hK K) | (apply Exists.intro; refine ⟨fun _ => ?_, hK _ ?_⟩; first | (fail); clear hK K)
        refine wpMix_pick 7 (by kernel_rfl) rfl (by kernel_rfl) (by with_reducible (repeat (first | exact Gn.refl _ | refine Gn.gr ?_ _ | refine Gn.alloc ?_ _ | refine Gn.drew ?_))) (by kernel_rfl) (fun K hK => ?_); go_simp; first | (refine hK _ ?_; clear hK K) | (apply Exists.intro; refine ⟨fun _ => ?_, hK _ ?_⟩; first | (fail); clear hK K)
        refine wpMix_one (i := 8) (by kernel_rfl) rfl ?_
        intro s8
        go_wp2
        refine ⟨(by with_reducible (repeat (first | exact Gn.refl _ | refine Gn.gr ?_ _ | refine Gn.alloc ?_ _ | refine Gn.drew ?_))), ?_⟩
        refine wpMix_one (i := 9) (by kernel_rfl) rfl ?_
        intro s9
        go_wp2
        refine ⟨(by with_reducible (repeat (first | exact Gn.refl _ | refine Gn.gr ?_ _ | refine Gn.alloc ?_ _ | refine Gn.drew ?_))), ?_⟩
        refine wpMix_one (i := 10) (by kernel_rfl) rfl ?_
        intro s10
        go_wp2
        refine ⟨(by with_reducible (repeat (first | exact Gn.refl _ | refine Gn.gr ?_ _ | refine Gn.alloc ?_ _ | refine Gn.drew ?_))), ?_⟩
        refine wpMix_one (i := 11) (by kernel_rfl) rfl ?_
        intro s11
        go_wp2
        refine wpMix_done (by kernel_rfl) ?_
        intro sz
        go_wp2
        go_roundw
        case rel =>
          refine ⟨k + 1, by omega, by go_num, Nums.grown (Nums.congr (Nums.set (show Nums wr hb 68 (adF f7 ys k) from HN2.out) k ((cW xs k : Int) + (cW ys k : Int))) (fun j hj => ?_)) (by with_reducible (repeat (first | exact Gn.refl _ | refine Gn.gr ?_ _ | refine Gn.alloc ?_ _ | refine Gn.drew ?_))), Kp.gn (Kp.set (show Kp (fun j => j = hb) w7 wr from HK2.out) hb k _ rfl) (by with_reducible (repeat (first | exact Gn.refl _ | refine Gn.gr ?_ _ | refine Gn.alloc ?_ _ | refine Gn.drew ?_)))⟩
          show (if j = k then (cW xs k : Int) + (cW ys k : Int) else adF f7 ys k j) = adF f7 ys (k + 1) j
          unfold adF
          by_cases hjk : j = k
          · subst hjk
            rw [if_pos rfl, if_pos (by omega), HF7.out j (by omega)]; unfold hf; rw [if_pos hlt]
          · rw [if_neg hjk]
            by_cases h2 : j < k
            · rw [if_pos h2, if_pos (by omega)]
            · rw [if_neg h2, if_neg (by omega)]
        case measure => simp [intOf]; omega
      · obtain rfl : k = 64 := by omega
        have hNo := (show Nums w7 ob 68 (hf ys l' m') from HNO.out).kept hK hne
        have c64 := (hN.2 64 (by omega)).1
        rw [show adF f7 ys 64 64 = (xs.length : Int) by unfold adF; rw [if_neg (by omega), HF7.out 64 (by omega)]; simp [hf]] at c64
        have f64 := (hN.2 64 (by omega)).2
        have c65 := (hN.2 65 (by omega)).1
        rw [show adF f7 ys 64 65 = S by unfold adF; rw [if_neg (by omega), HF7.out 65 (by omega)]; simp [hf]; exact HS.out] at c65
        have f65 := (hN.2 65 (by omega)).2
        have o64 := (hNo.2 64 (by omega)).1
        rw [show hf ys l' m' 64 = (ys.length : Int) by simp [hf]] at o64
        have o65 := (hNo.2 65 (by omega)).1
        rw [show hf ys l' m' 65 = SY by simp [hf]; exact HSY.out] at o65
        have hlr := hN.1
        have olr := hNo.1
        have HN2 : Hid _ := hN
        have HK2 : Hid _ := hK
        clear hN hK hNo
        go_wp2
        refine wp_region_z 11 12 (by kernel_rfl) rfl ?_
        refine wpMix_pick 0 (by kernel_rfl) rfl (by kernel_rfl) (by with_reducible (repeat (first | exact Gn.refl _ | refine Gn.gr ?_ _ | refine Gn.alloc ?_ _ | refine Gn.drew ?_))) (by kernel_rfl) (fun K hK => ?_); go_simp; first | (refine hK _ ?_; clear hK K) | (apply Exists.intro; refine ⟨fun _ => ?_, hK _ ?_⟩; first | (fail); clear hK K)
        refine wpMix_pick 1 (by kernel_rfl) rfl (by kernel_rfl) (by with_reducible (repeat (first | exact Gn.refl _ | refine Gn.gr ?_ _ | refine Gn.alloc ?_ _ | refine Gn.drew ?_))) (by kernel_rfl) (fun K hK => ?_); go_simp; first | (refine hK _ ?_; clear hK K) | (apply Exists.intro; refine ⟨fun _ => ?_, hK _ ?_⟩; first | (fail); clear hK K)
        refine wpMix_pick 2 (by kernel_rfl) rfl (by kernel_rfl) (by with_reducible (repeat (first | exact Gn.refl _ | refine Gn.gr ?_ _ | refine Gn.alloc ?_ _ | refine Gn.drew ?_))) (by kernel_rfl) (fun K hK => ?_); go_simp; first | (refine hK _ ?_; clear hK K) | (apply Exists.intro; refine ⟨fun _ => ?_, hK _ ?_⟩; first | (fail); clear hK K)
        refine wpMix_pick 3 (by kernel_rfl) rfl (by kernel_rfl) (by with_reducible (repeat (first | exact Gn.refl _ | refine Gn.gr ?_ _ | refine Gn.alloc ?_ _ | refine Gn.drew ?_))) (by kernel_rfl) (fun K hK => ?_); go_simp; first | (refine hK _ ?_; clear hK K) | (apply Exists.intro; refine ⟨fun _ => ?_, hK _ ?_⟩; first | (fail); clear hK K)
        refine wpMix_pick 4 (by kernel_rfl) rfl (by kernel_rfl) (by with_reducible (repeat (first | exact Gn.refl _ | refine Gn.gr ?_ _ | refine Gn.alloc ?_ _ | refine Gn.drew ?_))) (by kernel_rfl) (fun K hK => ?_); go_simp; first | (refine hK _ ?_; clear hK K) | (apply Exists.intro; refine ⟨fun _ => ?_, hK _ ?_⟩; first | (fail); clear hK K)
        refine wpMix_pick 5 (by kernel_rfl) rfl (by kernel_rfl) (by with_reducible (repeat (first | exact Gn.refl _ | refine Gn.gr ?_ _ | refine Gn.alloc ?_ _ | refine Gn.drew ?_))) (by kernel_rfl) (fun K hK => ?_); go_simp; first | (refine hK _ ?_; clear hK K) | (apply Exists.intro; refine ⟨fun _ => ?_, hK _ ?_⟩; first | (fail); clear hK K)
        refine wpMix_pick 6 (by kernel_rfl) rfl (by kernel_rfl) (by with_reducible (repeat (first | exact Gn.refl _ | refine Gn.gr ?_ _ | refine Gn.alloc ?_ _ | refine Gn.drew ?_))) (by kernel_rfl) (fun K hK => ?_); go_simp; first | (refine hK _ ?_; clear hK K) | (apply Exists.intro; refine ⟨fun _ => ?_, hK _ ?_⟩; first | (fail); clear hK K)
        refine wpMix_pick 7 (by kernel_rfl) rfl (by kernel_rfl) (by with_reducible (repeat (first | exact Gn.refl _ | refine Gn.gr ?_ _ | refine Gn.alloc ?_ _ | refine Gn.drew ?_))) (by kernel_rfl) (fun K hK => ?_); go_simp; first | (refine hK _ ?_; clear hK K) | (apply Exists.intro; refine ⟨fun _ => ?_, hK _ ?_⟩; first | (fail); clear hK K)
        refine wpMix_pick 8 (by kernel_rfl) rfl (by kernel_rfl) (by with_reducible (repeat (first | exact Gn.refl _ | refine Gn.gr ?_ _ | refine Gn.alloc ?_ _ | refine Gn.drew ?_))) (by kernel_rfl) (fun K hK => ?_); go_simp; first | (refine hK _ ?_; clear hK K) | (apply Exists.intro; refine ⟨fun _ => ?_, hK _ ?_⟩; first | (fail); clear hK K)
        refine wpMix_one (i := 9) (by kernel_rfl) rfl ?_
        intro t9
        go_wp2
        refine ⟨(by with_reducible (repeat (first | exact Gn.refl _ | refine Gn.gr ?_ _ | refine Gn.alloc ?_ _ | refine Gn.drew ?_))), ?_⟩
        refine wpMix_one (i := 10) (by kernel_rfl) rfl ?_
        intro t10
        go_wp2
        refine ⟨(by with_reducible (repeat (first | exact Gn.refl _ | refine Gn.gr ?_ _ | refine Gn.alloc ?_ _ | refine Gn.drew ?_))), ?_⟩
        refine wpMix_one (i := 11) (by kernel_rfl) rfl ?_
        intro t11
        go_wp2
        refine wpMix_done (by kernel_rfl) ?_
        intro tz
        go_wp2
        have H9 : Nums (((wr.setCell ⟨hb, 64, none⟩ (.int .i64 ((xs.length : Int) + (ys.length : Int)))).gr ⟨t11.d, t9.os ++ (t10.os ++ t11.os)⟩).gr tz) hb 68 (fun j => if j = 64 then (xs.length : Int) + (ys.length : Int) else adF f7 ys 64 j) ∧ Kp (fun j => j = hb) w7 (((wr.setCell ⟨hb, 64, none⟩ (.int .i64 ((xs.length : Int) + (ys.length : Int)))).gr ⟨t11.d, t9.os ++ (t10.os ++ t11.os)⟩).gr tz) :=
          ⟨((show Nums wr hb 68 (adF f7 ys 64) from HN2.out).set 64 _).grown (Gn.gr (Gn.gr (Gn.refl _) _) _), ((show Kp (fun j => j = hb) w7 wr from HK2.out).set hb 64 _ rfl).gn (Gn.gr (Gn.gr (Gn.refl _) _) _)⟩
        have hKo : Kp (fun j => j = hb) wr (((wr.setCell ⟨hb, 64, none⟩ (.int .i64 ((xs.length : Int) + (ys.length : Int)))).gr ⟨t11.d, t9.os ++ (t10.os ++ t11.os)⟩).gr tz) := ((Kp.refl (fun j => j = hb) wr).set hb 64 _ rfl).gn (Gn.gr (Gn.gr (Gn.refl _) _) _)
        replace o65 := hKo.cell o65 hne
        clear HN2 HK2 c64 f64 c65 f65 o64 hlr olr hKo
        generalize (((wr.setCell ⟨hb, 64, none⟩ (.int .i64 ((xs.length : Int) + (ys.length : Int)))).gr ⟨t11.d, t9.os ++ (t10.os ++ t11.os)⟩).gr tz) = w9 at *
        obtain ⟨hN, hK⟩ := H9
        have c65 := (hN.2 65 (by omega)).1
        simp only [show ¬ 65 = 64 by omega, if_false] at c65
        rw [show adF f7 ys 64 65 = S by unfold adF; rw [if_neg (by omega), HF7.out 65 (by omega)]; simp [hf]; exact HS.out] at c65
        have f65 := (hN.2 65 (by omega)).2
        have hl9 := hN.1
        have ol9 := World.block_lt_of_cell? w9 _ o65
        replace ol9 : ob < w9.heap.size := ol9
        have HN9 : Hid _ := hN
        have HK9 : Hid _ := hK
        clear hN hK
        refine wp_region_z 17 18 (by kernel_rfl) rfl ?_
        refine wpMix_pick 0 (by kernel_rfl) rfl (by kernel_rfl) (by with_reducible (repeat (first | exact Gn.refl _ | refine Gn.gr ?_ _ | refine Gn.alloc ?_ _ | refine Gn.drew ?_))) (by kernel_rfl) (fun K hK => ?_); go_simp; first | (refine hK _ ?_; clear hK K) | (apply Exists.intro; refine ⟨fun _ => ?_, hK _ ?_⟩; first | (fail); clear hK K)
        refine wpMix_pick 1 (by kernel_rfl) rfl (by kernel_rfl) (by with_reducible (repeat (first | exact Gn.refl _ | refine Gn.gr ?_ _ | refine Gn.alloc ?_ _ | refine Gn.drew ?_))) (by kernel_rfl) (fun K hK => ?_); go_simp; first | (refine hK _ ?_; clear hK K) | (apply Exists.intro; refine ⟨fun _ => ?_, hK _ ?_⟩; first | (fail); clear hK K)
        refine wpMix_pick 2 (by kernel_rfl) rfl (by kernel_rfl) (by with_reducible (repeat (first | exact Gn.refl _ | refine Gn.gr ?_ _ | refine Gn.alloc ?_ _ | refine Gn.drew ?_))) (by kernel_rfl) (fun K hK => ?_); go_simp; first | (refine hK _ ?_; clear hK K) | (apply Exists.intro; refine ⟨fun _ => ?_, hK _ ?_⟩; first | (fail); clear hK K)
        refine wpMix_pick 3 (by kernel_rfl) rfl (by kernel_rfl) (by with_reducible (repeat (first | exact Gn.refl _ | refine Gn.gr ?_ _ | refine Gn.alloc ?_ _ | refine Gn.drew ?_))) (by kernel_rfl) (fun K hK => ?_); go_simp; first | (refine hK _ ?_; clear hK K) | (apply Exists.intro; refine ⟨fun _ => ?_, hK _ ?_⟩; first | (fail); clear hK K)
        refine wpMix_pick 4 (by kernel_rfl) rfl (by kernel_rfl) (by with_reducible (repeat (first | exact Gn.refl _ | refine Gn.gr ?_ _ | refine Gn.alloc ?_ _ | refine Gn.drew ?_))) (by kernel_rfl) (fun K hK => ?_); go_simp; first | (refine hK _ ?_; clear hK K) | (apply Exists.intro; refine ⟨fun _ => ?_, hK _ ?_⟩; first | (fail); clear hK K)
        refine wpMix_pick 5 (by kernel_rfl) rfl (by kernel_rfl) (by with_reducible (repeat (first | exact Gn.refl _ | refine Gn.gr ?_ _ | refine Gn.alloc ?_ _ | refine Gn.drew ?_))) (by kernel_rfl) (fun K hK => ?_); go_simp; first | (refine hK _ ?_; clear hK K) | (apply Exists.intro; refine ⟨fun _ => ?_, hK _ ?_⟩; first | (fail); clear hK K)
        refine wpMix_pick 6 (by kernel_rfl) rfl (by kernel_rfl) (by with_reducible (repeat (first | exact Gn.refl _ | refine Gn.gr ?_ _ | refine Gn.alloc ?_ _ | refine Gn.drew ?_))) (by kernel_rfl) (fun K hK => ?_); go_simp; first | (refine hK _ ?_; clear hK K) | (apply Exists.intro; refine ⟨fun _ => ?_, hK _ ?_⟩; first | (fail); clear hK K)
        refine wpMix_pick 7 (by kernel_rfl) rfl (by kernel_rfl) (by with_reducible (repeat (first | exact Gn.refl _ | refine Gn.gr ?_ _ | refine Gn.alloc ?_ _ | refine Gn.drew ?_))) (by kernel_rfl) (fun K hK => ?_); go_simp; first | (refine hK _ ?_; clear hK K) | (apply Exists.intro; refine ⟨fun _ => ?_, hK _ ?_⟩; first | (fail); clear hK K)
        refine wpMix_pick 8 (by kernel_rfl) rfl (by kernel_rfl) (by with_reducible (repeat (first | exact Gn.refl _ | refine Gn.gr ?_ _ | refine Gn.alloc ?_ _ | refine Gn.drew ?_))) (by kernel_rfl) (fun K hK => ?_); go_simp; first | (refine hK _ ?_; clear hK K) | (apply Exists.intro; refine ⟨fun _ => ?_, hK _ ?_⟩; first | (fail); clear hK K)
        refine wpMix_pick 9 (by kernel_rfl) rfl (by kernel_rfl) (by with_reducible (repeat (first | exact Gn.refl _ | refine Gn.gr ?_ _ | refine Gn.alloc ?_ _ | refine Gn.drew ?_))) (by kernel_rfl) (fun K hK => ?_); go_simp; first | (refine hK _ ?_; clear hK K) | (apply Exists.intro; refine ⟨fun _ => ?_, hK _ ?_⟩; first | (fail); clear hK K)
        refine wpMix_pick 10 (by kernel_rfl) rfl (by kernel_rfl) (by with_reducible (repeat (first | exact Gn.refl _ | refine Gn.gr ?_ _ | refine Gn.alloc ?_ _ | refine Gn.drew ?_))) (by kernel_rfl) (fun K hK => ?_); go_simp; first | (refine hK _ ?_; clear hK K) | (apply Exists.intro; refine ⟨fun _ => ?_, hK _ ?_⟩; first | (fail); clear hK K)
        refine wpMix_pick 11 (by kernel_rfl) rfl (by kernel_rfl) (by with_reducible (repeat (first | exact Gn.refl _ | refine Gn.gr ?_ _ | refine Gn.alloc ?_ _ | refine Gn.drew ?_))) (by kernel_rfl) (fun K hK => ?_); go_simp; first | (refine hK _ ?_; clear hK K) | (apply Exists.intro; refine ⟨fun _ => ?_, hK _ ?_⟩; first | (fail); clear hK K)
        refine wpMix_pick 12 (by kernel_rfl) rfl (by kernel_rfl) (by with_reducible (repeat (first | exact Gn.refl _ | refine Gn.gr ?_ _ | refine Gn.alloc ?_ _ | refine Gn.drew ?_))) (by kernel_rfl) (fun K hK => ?_); go_simp; first | (refine hK _ ?_; clear hK K) | (apply Exists.intro; refine ⟨fun _ => ?_, hK _ ?_⟩; first | (fail); clear hK K)
        refine wpMix_pick 13 (by kernel_rfl) rfl (by kernel_rfl) (by with_reducible (repeat (first | exact Gn.refl _ | refine Gn.gr ?_ _ | refine Gn.alloc ?_ _ | refine Gn.drew ?_))) (by kernel_rfl) (fun K hK => ?_); go_simp; first | (refine hK _ ?_; clear hK K) | (apply Exists.intro; refine ⟨fun _ => ?_, hK _ ?_⟩; first | (fail); clear hK K)
        refine wpMix_pick 14 (by kernel_rfl) rfl (by kernel_rfl) (by with_reducible (repeat (first | exact Gn.refl _ | refine Gn.gr ?_ _ | refine Gn.alloc ?_ _ | refine Gn.drew ?_))) (by kernel_rfl) (fun K hK => ?_); go_simp; first | (refine hK _ ?_; clear hK K) | (apply Exists.intro; refine ⟨fun _ => ?_, hK _ ?_⟩; first | (fail); clear hK K)
        refine wpMix_one (i := 15) (by kernel_rfl) rfl ?_
        intro v15
        go_wp2
        refine ⟨(by with_reducible (repeat (first | exact Gn.refl _ | refine Gn.gr ?_ _ | refine Gn.alloc ?_ _ | refine Gn.drew ?_))), ?_⟩
        refine wpMix_one (i := 16) (by kernel_rfl) rfl ?_
        intro v16
        go_wp2
        refine ⟨(by with_reducible (repeat (first | exact Gn.refl _ | refine Gn.gr ?_ _ | refine Gn.alloc ?_ _ | refine Gn.drew ?_))), ?_⟩
        refine wpMix_one (i := 17) (by kernel_rfl) rfl ?_
        intro v17
        go_wp2
        refine wpMix_done (by kernel_rfl) ?_
        intro vz
        go_wp2
        have hE : Ends (xs ++ ys) l' (max m m') := by
          have e := (show Ends (xs ++ ys) (if xs.length = 0 ∨ l' < l then l' else l) (if m < m' then m' else m) from HE.out)
          rw [HL2.out, show (if m < m' then m' else m) = max m m' by split <;> omega] at e
          exact e
        go_end0
        exact ⟨⟨_, rfl⟩, ⟨l', max m m', ⟨Nums.grown (Nums.congr (Nums.set HN9.out 65 _) (add_eq xs ys l m l' (max m m') (show Hi w hb xs l m from H.out).ok (show Hi w ob ys l' m' from HO.out).ok f7 H66.out H67.out HF7.out _ (by rw [HS.out, HSY.out]))) (by with_reducible (repeat (first | exact Gn.refl _ | refine Gn.gr ?_ _ | refine Gn.alloc ?_ _ | refine Gn.drew ?_))), hE, (show Hi w hb xs l m from H.out).ok.append (show Hi w ob ys l' m' from HO.out).ok, by simp; omega⟩⟩, (show Kp (fun j => j = hb) w w7 from HK.out).trans (((show Kp (fun j => j = hb) w7 w9 from HK9.out).set hb 65 _ rfl).gn (by with_reducible (repeat (first | exact Gn.refl _ | refine Gn.gr ?_ _ | refine Gn.alloc ?_ _ | refine Gn.drew ?_))))⟩
  · have hz : ((xs.length : Int) == 0) = false := by simp; intro h; exact h0 (by rw [h]; rfl)
    by_cases hnl : l' < l
    · have hl2 : (if xs.length = 0 ∨ l' < l then l' else l) = l' := if_pos (.inr hnl)
      have HL2 : Hid _ := hl2
      have dl : decide (l' < l) = true := by rw [decide_eq_true_eq]; exact hnl
      clear h0 hl2
      go_enter Try.func7, Try.ntmps7
      go_wp2_with (go_at_call 12; refine (count_is _ HO.out).mono ?_; rintro e w' ⟨rfl, rfl⟩)
      refine wp_region_gr (by kernel_rfl) (by kernel_rfl) ?_
      repeat (go_big_quiet_step (fail))
      refine wpQuiet_nil ?_
      rintro _ ⟨q1, rfl⟩
      go_wp2
      have H5 : ∃ f : Nat → Int, Nums ((w.setCell ⟨hb, 66, none⟩ (.int .i64 l')).gr q1) hb 68 f ∧ f 66 = (l') ∧ (∀ j, j < 68 → j ≠ 66 → f j = hf xs l m j) ∧ Kp (fun j => j = hb) w ((w.setCell ⟨hb, 66, none⟩ (.int .i64 l')).gr q1) :=
        ⟨_, ((show Hi w hb xs l m from H.out).nums.set 66 l').grown (Gn.gr (Gn.refl _) _), by simp, fun j hj hj2 => by simp [hj2], ((Kp.refl (fun j => j = hb) w).set hb 66 _ rfl).gn (Gn.gr (Gn.refl _) _)⟩
      generalize ((w.setCell ⟨hb, 66, none⟩ (.int .i64 l')).gr q1) = w5 at *
      obtain ⟨f, hN, h66, hf5, hK⟩ := H5
      have hNo : Nums w5 ob 68 (hf ys l' m') := (show Hi w ob ys l' m' from HO.out).nums.kept hK hne
      have c67 := (hN.2 67 (by omega)).1
      rw [hf5 67 (by omega) (by omega), show hf xs l m 67 = m by simp [hf]] at c67
      have f67 := (hN.2 67 (by omega)).2
      have o67 := (hNo.2 67 (by omega)).1
      rw [show hf ys l' m' 67 = m' by simp [hf]] at o67
      have hl5 := hN.1
      have ol5 := hNo.1
      have HN : Hid _ := hN
      have HNO : Hid _ := hNo
      have H66 : Hid _ := h66
      have HF5 : Hid _ := hf5
      have HK : Hid _ := hK
      clear hN hNo h66 hf5 hK c0 c1 c2 c3 f0 f1 f2 f3 hl o0 o1 o2 o3 ol
      refine wp_region_z 12 13 (by kernel_rfl) rfl ?_
      refine wpMix_pick 0 (by kernel_rfl) rfl (by kernel_rfl) (by with_reducible (repeat (first | exact Gn.refl _ | refine Gn.gr ?_ _ | refine Gn.alloc ?_ _ | refine Gn.drew ?_))) (by kernel_rfl) (fun K hK => ?_); go_simp; first | (refine hK _ ?_; clear hK K) | (apply Exists.intro; refine ⟨fun _ => ?_, hK _ ?_⟩; first | (fail); clear hK K)
      refine wpMix_pick 1 (by kernel_rfl) rfl (by kernel_rfl) (by with_reducible (repeat (first | exact Gn.refl _ | refine Gn.gr ?_ _ | refine Gn.alloc ?_ _ | refine Gn.drew ?_))) (by kernel_rfl) (fun K hK => ?_); go_simp; first | (refine hK _ ?_; clear hK K) | (apply Exists.intro; refine ⟨fun _ => ?_, hK _ ?_⟩; first | (fail); clear hK K)
      refine wpMix_pick 2 (by kernel_rfl) rfl (by kernel_rfl) (by with_reducible (repeat (first | exact Gn.refl _ | refine Gn.gr ?_ _ | refine Gn.alloc ?_ _ | refine Gn.drew ?_))) (by kernel_rfl) (fun K hK => ?_); go_simp; first | (refine hK _ ?_; clear hK K) | (apply Exists.intro; refine ⟨fun _ => ?_, hK _ ?_⟩; first | (fail); clear hK K)
      refine wpMix_pick 3 (by kernel_rfl) rfl (by kernel_rfl) (by with_reducible (repeat (first | exact Gn.refl _ | refine Gn.gr ?_ _ | refine Gn.alloc ?_ _ | refine Gn.drew ?_))) (by kernel_rfl) (fun K hK => ?_); go_simp; first | (refine hK _ ?_; clear hK K) | (apply Exists.intro; refine ⟨fun _ => ?_, hK _ ?_⟩; first | (fail); clear hK K)
      refine wpMix_pick 4 (by kernel_rfl) rfl (by kernel_rfl) (by with_reducible (repeat (first | exact Gn.refl _ | refine Gn.gr ?_ _ | refine Gn.alloc ?_ _ | refine Gn.drew ?_))) (by kernel_rfl) (fun K hK => ?_); go_simp; first | (refine hK _ ?_; clear hK K) | (apply Exists.intro; refine ⟨fun _ => ?_, hK _ ?_⟩; first | (fail); clear hK K)
      refine wpMix_pick 5 (by kernel_rfl) rfl (by kernel_rfl) (by with_reducible (repeat (first | exact Gn.refl _ | refine Gn.gr ?_ _ | refine Gn.alloc ?_ _ | refine Gn.drew ?_))) (by kernel_rfl) (fun K hK => ?_); go_simp; first | (refine hK _ ?_; clear hK K) | (apply Exists.intro; refine ⟨fun _ => ?_, hK _ ?_⟩; first | (fail); clear hK K)
      refine wpMix_pick 6 (by kernel_rfl) rfl (by kernel_rfl) (by with_reducible (repeat (first | exact Gn.refl _ | refine Gn.gr ?_ _ | refine Gn.alloc ?_ _ | refine Gn.drew ?_))) (by kernel_rfl) (fun K hK => ?_); go_simp; first | (refine hK _ ?_; clear hK K) | (apply Exists.intro; refine ⟨fun _ => ?_, hK _ ?_⟩; first | (fail); clear hK K)
      refine wpMix_pick 7 (by kernel_rfl) rfl (by kernel_rfl) (by with_reducible (repeat (first | exact Gn.refl _ | refine Gn.gr ?_ _ | refine Gn.alloc ?_ _ | refine Gn.drew ?_))) (by kernel_rfl) (fun K hK => ?_); go_simp; first | (refine hK _ ?_; clear hK K) | (apply Exists.intro; refine ⟨fun _ => ?_, hK _ ?_⟩; first | (fail); clear hK K)
      refine wpMix_pick 8 (by kernel_rfl) rfl (by kernel_rfl) (by with_reducible (repeat (first | exact Gn.refl _ | refine Gn.gr ?_ _ | refine Gn.alloc ?_ _ | refine Gn.drew ?_))) (by kernel_rfl) (fun K hK => ?_); go_simp; first | (refine hK _ ?_; clear hK K) | (apply Exists.intro; refine ⟨fun _ => ?_, hK _ ?_⟩; first | (fail); clear hK K)
      refine wpMix_pick 9 (by kernel_rfl) rfl (by kernel_rfl) (by with_reducible (repeat (first | exact Gn.refl _ | refine Gn.gr ?_ _ | refine Gn.alloc ?_ _ | refine Gn.drew ?_))) (by kernel_rfl) (fun K hK => ?_); go_simp; first | (refine hK _ ?_; clear hK K) | (apply Exists.intro; refine ⟨fun _ => ?_, hK _ ?_⟩; first | (fail); clear hK K)
      refine wpMix_one (i := 10) (by kernel_rfl) rfl ?_
      intro p10
      go_wp2
      refine ⟨(by with_reducible (repeat (first | exact Gn.refl _ | refine Gn.gr ?_ _ | refine Gn.alloc ?_ _ | refine Gn.drew ?_))), ?_⟩
      refine wpMix_one (i := 11) (by kernel_rfl) rfl ?_
      intro p11
      go_wp2
      refine ⟨(by with_reducible (repeat (first | exact Gn.refl _ | refine Gn.gr ?_ _ | refine Gn.alloc ?_ _ | refine Gn.drew ?_))), ?_⟩
      refine wpMix_one (i := 12) (by kernel_rfl) rfl ?_
      intro p12
      go_wp2
      refine wpMix_done (by kernel_rfl) ?_
      intro pz
      have H7 : ∃ f7 : Nat → Int, Nums (((w5.setCell ⟨hb, 67, none⟩ (.int .i64 (max m m'))).gr ⟨p12.d, p10.os ++ (p11.os ++ p12.os)⟩).gr pz) hb 68 f7 ∧ f7 66 = l' ∧ f7 67 = max m m' ∧ (∀ j, j < 66 → f7 j = hf xs l m j) ∧ Kp (fun j => j = hb) w (((w5.setCell ⟨hb, 67, none⟩ (.int .i64 (max m m'))).gr ⟨p12.d, p10.os ++ (p11.os ++ p12.os)⟩).gr pz) :=
        ⟨_, ((show Nums w5 hb 68 f from HN.out).set 67 (max m m')).grown (Gn.gr (Gn.gr (Gn.refl _) _) _), by simp; exact H66.out, by simp, fun j hj => by simp [show ¬ j = 67 by omega]; exact HF5.out j (by omega) (by omega), ((show Kp (fun j => j = hb) w w5 from HK.out).set hb 67 _ rfl).gn (Gn.gr (Gn.gr (Gn.refl _) _) _)⟩
      clear HN HNO H66 HF5 HK c67 f67 o67 hl5 ol5
      generalize (((w5.setCell ⟨hb, 67, none⟩ (.int .i64 (max m m'))).gr ⟨p12.d, p10.os ++ (p11.os ++ p12.os)⟩).gr pz) = w7 at *
      obtain ⟨f7, hN, h66, h67, hf7, hK⟩ := H7
      have hNo : Nums w7 ob 68 (hf ys l' m') := (show Hi w ob ys l' m' from HO.out).nums.kept hK hne
      have HN : Hid _ := hN
      have HNO : Hid _ := hNo
      have H66 : Hid _ := h66
      have H67 : Hid _ := h67
      have HF7 : Hid _ := hf7
      have HK : Hid _ := hK
      have ol7 := hNo.1
      clear hN hNo h66 h67 hf7 hK
      go_wp2_with (refine wpList_load_arr rfl _ rfl ob rfl (fun j => .int .i64 (cW ys j : Int)) (fun j hj => by have hh := ((show Nums w7 ob 68 (hf ys l' m') from HNO.out).2 j (by omega)).1; unfold hf at hh; rw [if_pos hj] at hh; exact hh) ?_; intro A hA; have HA : Hid _ := hA; clear hA)
      go_loopw [52] (fun i wr => ∃ k : Nat, k ≤ 64 ∧ i = .int .i64 k ∧ Nums wr hb 68 (adF f7 ys k) ∧ Kp (fun j => j = hb) w7 wr) (fun i _ => 64 - (intOf i).toNat)
      case atStart => exact ⟨0, by omega, rfl, (show Nums w7 hb 68 f7 from HN.out).congr (fun j _ => by simp [adF]), Kp.refl _ _⟩
      case round =>
        obtain ⟨k, hk, rfl, hN, hK⟩ := hrel
        by_cases hlt : k < 64
        · have hix := run_index_arr A k (cW ys k : Int) hlt (HA.out k hlt)
          have cr := (hN.2 k (by omega)).1
          rw [show adF f7 ys k k = (cW xs k : Int) by unfold adF; rw [if_neg (by omega), HF7.out k (by omega)]; unfold hf; rw [if_pos hlt]] at cr
          have fr := (hN.2 k (by omega)).2
          have hlr := hN.1
          have b1 := cW_le xs k
          have b2 := cW_le ys k
          have hki : (k : Int) < 64 := by omega
          have HN2 : Hid _ := hN
          have HK2 : Hid _ := hK
          clear hN hK
          go_wp2
          refine wp_region_z 11 12 (by kernel_rfl) rfl ?_
          refine wpMix_pick 0 (by kernel_rfl) rfl (by kernel_rfl) (by with_reducible (repeat (first | exact Gn.refl _ | refine Gn.gr ?_ _ | refine Gn.alloc ?_ _ | refine Gn.drew ?_))) (by kernel_rfl) (fun K hK => ?_); go_simp; first | (refine hK _ ?_; clear hK K) | (apply Exists.intro; refine ⟨fun _ => ?_, hK _ ?_⟩; first | (fail); clear hK K)
          refine wpMix_pick 1 (by kernel_rfl) rfl (by kernel_rfl) (by with_reducible (repeat (first | exact Gn.refl _ | refine Gn.gr ?_ _ | refine Gn.alloc ?_ _ | refine Gn.drew ?_))) (by kernel_rfl) (fun K hK => ?_); go_simp; first | (refine hK _ ?_; clear hK K) | (apply Exists.intro; refine ⟨fun _ => ?_, hK _ ?_⟩; first | (fail); clear hK K)
          refine wpMix_pick 2 (by kernel_rfl) rfl (by kernel_rfl) (by with_reducible (repeat (first | exact Gn.refl _ | refine Gn.gr ?_ _ | refine Gn.alloc ?_ _ | refine Gn.drew ?_))) (by kernel_rfl) (fun K hK => ?_); go_simp; first | (refine hK _ ?_; clear hK K) | (apply Exists.intro; refine ⟨fun _ => ?_, hK _ ?_⟩; first | (fail); clear hK K)
          refine wpMix_pick 3 (by kernel_rfl) rfl (by kernel_rfl) (by with_reducible (repeat (first | exact Gn.refl _ | refine Gn.gr ?_ _ | refine Gn.alloc ?_ _ | refine Gn.drew ?_))) (by kernel_rfl) (fun K hK => ?_); go_simp; first | (refine hK _ ?_; clear hK K) | (apply Exists.intro; refine ⟨fun _ => ?_, hK _ ?_⟩; first | (fail); clear hK K)
          refine wpMix_pick 4 (by kernel_rfl) rfl (by kernel_rfl) (by with_reducible (repeat (first | exact Gn.refl _ | refine Gn.gr ?_ _ | refine Gn.alloc ?_ _ | refine Gn.drew ?_))) (by kernel_rfl) (fun K hK => ?_); go_simp; first | (refine hK _ ?_; clear hK K) | (apply Exists.intro; refine ⟨fun _ => ?_, hK _ ?_⟩; first | (fail); clear hK K)
          refine wpMix_pick 5 (by kernel_rfl) rfl (by kernel_rfl) (by with_reducible (repeat (first | exact Gn.refl _ | refine Gn.gr ?_ _ | refine Gn.alloc ?_ _ | refine Gn.drew ?_))) (by kernel_rfl) (fun K hK => ?_); go_simp; first | (refine hK _ ?_; clear hK K) | (apply Exists.intro; refine ⟨fun _ => ?_, hK _ ?_⟩; first | (fail); clear hK K)
          refine wpMix_pick 6 (by kernel_rfl) rfl (by kernel_rfl) (by with_reducible (repeat (first | exact Gn.refl _ | refine Gn.gr ?_ _ | refine Gn.alloc ?_ _ | refine Gn.drew ?_))) (by kernel_rfl) (fun K hK => ?_); go_simp; first | (refine hK _ ?_; clear hK K) | (apply Exists.intro; refine ⟨fun _ => ?_, hK _ ?_⟩; first | (fail); clear hK K)
          refine wpMix_pick 7 (by kernel_rfl) rfl (by kernel_rfl) (by with_reducible (repeat (first | exact Gn.refl _ | refine Gn.gr ?_ _ | refine Gn.alloc ?_ _ | refine Gn.drew ?_))) (by kernel_rfl) (fun K hK => ?_); go_simp; first | (refine hK _ ?_; clear hK K) | (apply Exists.intro; refine ⟨fun _ => ?_, hK _ ?_⟩; first | (fail); clear hK K)
          refine wpMix_one (i := 8) (by kernel_rfl) rfl ?_
          intro s8
          go_wp2
          refine ⟨(by with_reducible (repeat (first | exact Gn.refl _ | refine Gn.gr ?_ _ | refine Gn.alloc ?_ _ | refine Gn.drew ?_))), ?_⟩
          refine wpMix_one (i := 9) (by kernel_rfl) rfl ?_
          intro s9
          go_wp2
          refine ⟨(by with_reducible (repeat (first | exact Gn.refl _ | refine Gn.gr ?_ _ | refine Gn.alloc ?_ _ | refine Gn.drew ?_))), ?_⟩
          refine wpMix_one (i := 10) (by kernel_rfl) rfl ?_
          intro s10
          go_wp2
          refine ⟨(by with_reducible (repeat (first | exact Gn.refl _ | refine Gn.gr ?_ _ | refine Gn.alloc ?_ _ | refine Gn.drew ?_))), ?_⟩
          refine wpMix_one (i := 11) (by kernel_rfl) rfl ?_
          intro s11
          go_wp2
          refine wpMix_done (by kernel_rfl) ?_
          intro sz
          go_wp2
          go_roundw
          case rel =>
            refine ⟨k + 1, by omega, by go_num, Nums.grown (Nums.congr (Nums.set (show Nums wr hb 68 (adF f7 ys k) from HN2.out) k ((cW xs k : Int) + (cW ys k : Int))) (fun j hj => ?_)) (by with_reducible (repeat (first | exact Gn.refl _ | refine Gn.gr ?_ _ | refine Gn.alloc ?_ _ | refine Gn.drew ?_))), Kp.gn (Kp.set (show Kp (fun j => j = hb) w7 wr from HK2.out) hb k _ rfl) (by with_reducible (repeat (first | exact Gn.refl _ | refine Gn.gr ?_ _ | refine Gn.alloc ?_ _ | refine Gn.drew ?_)))⟩
            show (if j = k then (cW xs k : Int) + (cW ys k : Int) else adF f7 ys k j) = adF f7 ys (k + 1) j
            unfold adF
            by_cases hjk : j = k
            · subst hjk
              rw [if_pos rfl, if_pos (by omega), HF7.out j (by omega)]; unfold hf; rw [if_pos hlt]
            · rw [if_neg hjk]
              by_cases h2 : j < k
              · rw [if_pos h2, if_pos (by omega)]
              · rw [if_neg h2, if_neg (by omega)]
          case measure => simp [intOf]; omega
        · obtain rfl : k = 64 := by omega
          have hNo := (show Nums w7 ob 68 (hf ys l' m') from HNO.out).kept hK hne
          have c64 := (hN.2 64 (by omega)).1
          rw [show adF f7 ys 64 64 = (xs.length : Int) by unfold adF; rw [if_neg (by omega), HF7.out 64 (by omega)]; simp [hf]] at c64
          have f64 := (hN.2 64 (by omega)).2
          have c65 := (hN.2 65 (by omega)).1
          rw [show adF f7 ys 64 65 = S by unfold adF; rw [if_neg (by omega), HF7.out 65 (by omega)]; simp [hf]; exact HS.out] at c65
          have f65 := (hN.2 65 (by omega)).2
          have o64 := (hNo.2 64 (by omega)).1
          rw [show hf ys l' m' 64 = (ys.length : Int) by simp [hf]] at o64
          have o65 := (hNo.2 65 (by omega)).1
          rw [show hf ys l' m' 65 = SY by simp [hf]; exact HSY.out] at o65
          have hlr := hN.1
          have olr := hNo.1
          have HN2 : Hid _ := hN
          have HK2 : Hid _ := hK
          clear hN hK hNo
          go_wp2
          refine wp_region_z 11 12 (by kernel_rfl) rfl ?_
          refine wpMix_pick 0 (by kernel_rfl) rfl (by kernel_rfl) (by with_reducible (repeat (first | exact Gn.refl _ | refine Gn.gr ?_ _ | refine Gn.alloc ?_ _ | refine Gn.drew ?_))) (by kernel_rfl) (fun K hK => ?_); go_simp; first | (refine hK _ ?_; clear hK K) | (apply Exists.intro; refine ⟨fun _ => ?_, hK _ ?_⟩; first | (fail); clear hK K)
          refine wpMix_pick 1 (by kernel_rfl) rfl (by kernel_rfl) (by with_reducible (repeat (first | exact Gn.refl _ | refine Gn.gr ?_ _ | refine Gn.alloc ?_ _ | refine Gn.drew ?_))) (by kernel_rfl) (fun K hK => ?_); go_simp; first | (refine hK _ ?_; clear hK K) | (apply Exists.intro; refine ⟨fun _ => ?_, hK _ ?_⟩; first | (fail); clear hK K)
          refine wpMix_pick 2 (by kernel_rfl) rfl (by kernel_rfl) (by with_reducible (repeat (first | exact Gn.refl _ | refine Gn.gr ?_ _ | refine Gn.alloc ?_ _ | refine Gn.drew ?_))) (by kernel_rfl) (fun K hK => ?_); go_simp; first | (refine hK _ ?_; clear hK K) | (apply Exists.intro; refine ⟨fun _ => ?_, hK _ ?_⟩; first | (fail); clear hK K)
          refine wpMix_pick 3 (by kernel_rfl) rfl (by kernel_rfl) (by with_reducible (repeat (first | exact Gn.refl _ | refine Gn.gr ?_ _ | refine Gn.alloc ?_ _ | refine Gn.drew ?_))) (by kernel_rfl) (fun K hK => ?_); go_simp; first | (refine hK _ ?_; clear hK K) | (apply Exists.intro; refine ⟨fun _ => ?_, hK _ ?_⟩; first | (fail); clear hK K)
          refine wpMix_pick 4 (by kernel_rfl) rfl (by kernel_rfl) (by with_reducible (repeat (first | exact Gn.refl _ | refine Gn.gr ?_ _ | refine Gn.alloc ?_ _ | refine Gn.drew ?_))) (by kernel_rfl) (fun K hK => ?_); go_simp; first | (refine hK _ ?_; clear hK K) | (apply Exists.intro; refine ⟨fun _ => ?_, hK _ ?_⟩; first | (fail); clear hK K)
          refine wpMix_pick 5 (by kernel_rfl) rfl (by kernel_rfl) (by with_reducible (repeat (first | exact Gn.refl _ | refine Gn.gr ?_ _ | refine Gn.alloc ?_ _ | refine Gn.drew ?_))) (by kernel_rfl) (fun K hK => ?_); go_simp; first | (refine hK _ ?_; clear hK K) | (apply Exists.intro; refine ⟨fun _ => ?_, hK _ ?_⟩; first | (fail); clear hK K)
          refine wpMix_pick 6 (by kernel_rfl) rfl (by kernel_rfl) (by with_reducible (repeat (first | exact Gn.refl _ | refine Gn.gr ?_ _ | refine Gn.alloc ?_ _ | refine Gn.drew ?_))) (by kernel_rfl) (fun K hK => ?_); go_simp; first | (refine hK _ ?_; clear hK K) | (apply Exists.intro; refine ⟨fun _ => ?_, hK _ ?_⟩; first | (fail); clear hK K)
          refine wpMix_pick 7 (by kernel_rfl) rfl (by kernel_rfl) (by with_reducible (repeat (first | exact Gn.refl _ | refine Gn.gr ?_ _ | refine Gn.alloc ?_ _ | refine Gn.drew ?_))) (by kernel_rfl) (fun K hK => ?_); go_simp; first | (refine hK _ ?_; clear hK K) | (apply Exists.intro; refine ⟨fun _ => ?_, hK _ ?_⟩; first | (fail); clear hK K)
          refine wpMix_pick 8 (by kernel_rfl) rfl (by kernel_rfl) (by with_reducible (repeat (first | exact Gn.refl _ | refine Gn.gr ?_ _ | refine Gn.alloc ?_ _ | refine Gn.drew ?_))) (by kernel_rfl) (fun K hK => ?_); go_simp; first | (refine hK _ ?_; clear hK K) | (apply Exists.intro; refine ⟨fun _ => ?_, hK _ ?_⟩; first | (fail); clear hK K)
          refine wpMix_one (i := 9) (by kernel_rfl) rfl ?_
          intro t9
          go_wp2
          refine ⟨(by with_reducible (repeat (first | exact Gn.refl _ | refine Gn.gr ?_ _ | refine Gn.alloc ?_ _ | refine Gn.drew ?_))), ?_⟩
          refine wpMix_one (i := 10) (by kernel_rfl) rfl ?_
          intro t10
          go_wp2
          refine ⟨(by with_reducible (repeat (first | exact Gn.refl _ | refine Gn.gr ?_ _ | refine Gn.alloc ?_ _ | refine Gn.drew ?_))), ?_⟩
          refine wpMix_one (i := 11) (by kernel_rfl) rfl ?_
          intro t11
          go_wp2
          refine wpMix_done (by kernel_rfl) ?_
          intro tz
          go_wp2
          have H9 : Nums (((wr.setCell ⟨hb, 64, none⟩ (.int .i64 ((xs.length : Int) + (ys.length : Int)))).gr ⟨t11.d, t9.os ++ (t10.os ++ t11.os)⟩).gr tz) hb 68 (fun j => if j = 64 then (xs.length : Int) + (ys.length : Int) else adF f7 ys 64 j) ∧ Kp (fun j => j = hb) w7 (((wr.setCell ⟨hb, 64, none⟩ (.int .i64 ((xs.length : Int) + (ys.length : Int)))).gr ⟨t11.d, t9.os ++ (t10.os ++ t11.os)⟩).gr tz) :=
            ⟨((show Nums wr hb 68 (adF f7 ys 64) from HN2.out).set 64 _).grown (Gn.gr (Gn.gr (Gn.refl _) _) _), ((show Kp (fun j => j = hb) w7 wr from HK2.out).set hb 64 _ rfl).gn (Gn.gr (Gn.gr (Gn.refl _) _) _)⟩
          have hKo : Kp (fun j => j = hb) wr (((wr.setCell ⟨hb, 64, none⟩ (.int .i64 ((xs.length : Int) + (ys.length : Int)))).gr ⟨t11.d, t9.os ++ (t10.os ++ t11.os)⟩).gr tz) := ((Kp.refl (fun j => j = hb) wr).set hb 64 _ rfl).gn (Gn.gr (Gn.gr (Gn.refl _) _) _)
          replace o65 := hKo.cell o65 hne
          clear HN2 HK2 c64 f64 c65 f65 o64 hlr olr hKo
          generalize (((wr.setCell ⟨hb, 64, none⟩ (.int .i64 ((xs.length : Int) + (ys.length : Int)))).gr ⟨t11.d, t9.os ++ (t10.os ++ t11.os)⟩).gr tz) = w9 at *
          obtain ⟨hN, hK⟩ := H9
          have c65 := (hN.2 65 (by omega)).1
          simp only [show ¬ 65 = 64 by omega, if_false] at c65
          rw [show adF f7 ys 64 65 = S by unfold adF; rw [if_neg (by omega), HF7.out 65 (by omega)]; simp [hf]; exact HS.out] at c65
          have f65 := (hN.2 65 (by omega)).2
          have hl9 := hN.1
          have ol9 := World.block_lt_of_cell? w9 _ o65
          replace ol9 : ob < w9.heap.size := ol9
          have HN9 : Hid _ := hN
          have HK9 : Hid _ := hK
          clear hN hK
          refine wp_region_z 17 18 (by kernel_rfl) rfl ?_
          refine wpMix_pick 0 (by kernel_rfl) rfl (by kernel_rfl) (by with_reducible (repeat (first | exact Gn.refl _ | refine Gn.gr ?_ _ | refine Gn.alloc ?_ _ | refine Gn.drew ?_))) (by kernel_rfl) (fun K hK => ?_); go_simp; first | (refine hK _ ?_; clear hK K) | (apply Exists.intro; refine ⟨fun _ => ?_, hK _ ?_⟩; first | (fail); clear hK K)
          refine wpMix_pick 1 (by kernel_rfl) rfl (by kernel_rfl) (by with_reducible (repeat (first | exact Gn.refl _ | refine Gn.gr ?_ _ | refine Gn.alloc ?_ _ | refine Gn.drew ?_))) (by kernel_rfl) (fun K hK => ?_); go_simp; first | (refine hK _ ?_; clear hK K) | (apply Exists.intro; refine ⟨fun _ => ?_, hK _ ?_⟩; first | (fail); clear hK K)
          refine wpMix_pick 2 (by kernel_rfl) rfl (by kernel_rfl) (by with_reducible (repeat (first | exact Gn.refl _ | refine Gn.gr ?_ _ | refine Gn.alloc ?_ _ | refine Gn.drew ?_))) (by kernel_rfl) (fun K hK => ?_); go_simp; first | (refine hK _ ?_; clear hK K) | (apply Exists.intro; refine ⟨fun _ => ?_, hK _ ?_⟩; first | (fail); clear hK K)
          refine wpMix_pick 3 (by kernel_rfl) rfl (by kernel_rfl) (by with_reducible (repeat (first | exact Gn.refl _ | refine Gn.gr ?_ _ | refine Gn.alloc ?_ _ | refine Gn.drew ?_))) (by kernel_rfl) (fun K hK => ?_); go_simp; first | (refine hK _ ?_; clear hK K) | (apply Exists.intro; refine ⟨fun _ => ?_, hK _ ?_⟩; first | (fail); clear hK K)
          refine wpMix_pick 4 (by kernel_rfl) rfl (by kernel_rfl) (by with_reducible (repeat (first | exact Gn.refl _ | refine Gn.gr ?_ _ | refine Gn.alloc ?_ _ | refine Gn.drew ?_))) (by kernel_rfl) (fun K hK => ?_); go_simp; first | (refine hK _ ?_; clear hK K) | (apply Exists.intro; refine ⟨fun _ => ?_, hK _ ?_⟩; first | (fail); clear hK K)
          refine wpMix_pick 5 (by kernel_rfl) rfl (by kernel_rfl) (by with_reducible (repeat (first | exact Gn.refl _ | refine Gn.gr ?_ _ | refine Gn.alloc ?_ _ | refine Gn.drew ?_))) (by kernel_rfl) (fun K hK => ?_); go_simp; first | (refine hK _ ?_; clear hK K) | (apply Exists.intro; refine ⟨fun _ => ?_, hK _ ?_⟩; first | (fail); clear hK K)
          refine wpMix_pick 6 (by kernel_rfl) rfl (by kernel_rfl) (by with_reducible (repeat (first | exact Gn.refl _ | refine Gn.gr ?_ _ | refine Gn.alloc ?_ _ | refine Gn.drew ?_))) (by kernel_rfl) (fun K hK => ?_); go_simp; first | (refine hK _ ?_; clear hK K) | (apply Exists.intro; refine ⟨fun _ => ?_, hK _ ?_⟩; first | (fail); clear hK K)
          refine wpMix_pick 7 (by kernel_rfl) rfl (by kernel_rfl) (by with_reducible (repeat (first | exact Gn.refl _ | refine Gn.gr ?_ _ | refine Gn.alloc ?_ _ | refine Gn.drew ?_))) (by kernel_rfl) (fun K hK => ?_); go_simp; first | (refine hK _ ?_; clear hK K) | (apply Exists.intro; refine ⟨fun _ => ?_, hK _ ?_⟩; first | (fail); clear hK K)
          refine wpMix_pick 8 (by kernel_rfl) rfl (by kernel_rfl) (by with_reducible (repeat (first | exact Gn.refl _ | refine Gn.gr ?_ _ | refine Gn.alloc ?_ _ | refine Gn.drew ?_))) (by kernel_rfl) (fun K hK => ?_); go_simp; first | (refine hK _ ?_; clear hK K) | (apply Exists.intro; refine ⟨fun _ => ?_, hK _ ?_⟩; first | (fail); clear hK K)
          refine wpMix_pick 9 (by kernel_rfl) rfl (by kernel_rfl) (by with_reducible (repeat (first | exact Gn.refl _ | refine Gn.gr ?_ _ | refine Gn.alloc ?_ _ | refine Gn.drew ?_))) (by kernel_rfl) (fun K hK => ?_); go_simp; first | (refine hK _ ?_; clear hK K) | (apply Exists.intro; refine ⟨fun _ => ?_, hK _ ?_⟩; first | (fail); clear hK K)
          refine wpMix_pick 10 (by kernel_rfl) rfl (by kernel_rfl) (by with_reducible (repeat (first | exact Gn.refl _ | refine Gn.gr ?_ _ | refine Gn.alloc ?_ _ | refine Gn.drew ?_))) (by kernel_rfl) (fun K hK => ?_); go_simp; first | (refine hK _ ?_; clear hK K) | (apply Exists.intro; refine ⟨fun _ => ?_, hK _ ?_⟩; first | (fail); clear hK K)
          refine wpMix_pick 11 (by kernel_rfl) rfl (by kernel_rfl) (by with_reducible (repeat (first | exact Gn.refl _ | refine Gn.gr ?_ _ | refine Gn.alloc ?_ _ | refine Gn.drew ?_))) (by kernel_rfl) (fun K hK => ?_); go_simp; first | (refine hK _ ?_; clear hK K) | (apply Exists.intro; refine ⟨fun _ => ?_, hK _ ?_⟩; first | (fail); clear hK K)
          refine wpMix_pick 12 (by kernel_rfl) rfl (by kernel_rfl) (by with_reducible (repeat (first | exact Gn.refl _ | refine Gn.gr ?_ _ | refine Gn.alloc ?_ _ | refine Gn.drew ?_))) (by kernel_rfl) (fun K hK => ?_); go_simp; first | (refine hK _ ?_; clear hK K) | (apply Exists.intro; refine ⟨fun _ => ?_, hK _ ?_⟩; first | (fail); clear hK K)
          refine wpMix_pick 13 (by kernel_rfl) rfl (by kernel_rfl) (by with_reducible (repeat (first | exact Gn.refl _ | refine Gn.gr ?_ _ | refine Gn.alloc ?_ _ | refine Gn.drew ?_))) (by kernel_rfl) (fun K hK => ?_); go_simp; first | (refine hK _ ?_; clear hK K) | (apply Exists.intro; refine ⟨fun _ => ?_, hK _ ?_⟩; first | (fail); clear hK K)
          refine wpMix_pick 14 (by kernel_rfl) rfl (by kernel_rfl) (by with_reducible (repeat (first | exact Gn.refl _ | refine Gn.gr ?_ _ | refine Gn.alloc ?_ _ | refine Gn.drew ?_))) (by kernel_rfl) (fun K hK => ?_); go_simp; first | (refine hK _ ?_; clear hK K) | (apply Exists.intro; refine ⟨fun _ => ?_, hK _ ?_⟩; first | (fail); clear hK K)
          refine wpMix_one (i := 15) (by kernel_rfl) rfl ?_
          intro v15
          go_wp2
          refine ⟨(by with_reducible (repeat (first | exact Gn.refl _ | refine Gn.gr ?_ _ | refine Gn.alloc ?_ _ | refine Gn.drew ?_))), ?_⟩
          refine wpMix_one (i := 16) (by kernel_rfl) rfl ?_
          intro v16
          go_wp2
          refine ⟨(by with_reducible (repeat (first | exact Gn.refl _ | refine Gn.gr ?_ _ | refine Gn.alloc ?_ _ | refine Gn.drew ?_))), ?_⟩
          refine wpMix_one (i := 17) (by kernel_rfl) rfl ?_
          intro v17
          go_wp2
          refine wpMix_done (by kernel_rfl) ?_
          intro vz
          go_wp2
          have hE : Ends (xs ++ ys) l' (max m m') := by
            have e := (show Ends (xs ++ ys) (if xs.length = 0 ∨ l' < l then l' else l) (if m < m' then m' else m) from HE.out)
            rw [HL2.out, show (if m < m' then m' else m) = max m m' by split <;> omega] at e
            exact e
          go_end0
          exact ⟨⟨_, rfl⟩, ⟨l', max m m', ⟨Nums.grown (Nums.congr (Nums.set HN9.out 65 _) (add_eq xs ys l m l' (max m m') (show Hi w hb xs l m from H.out).ok (show Hi w ob ys l' m' from HO.out).ok f7 H66.out H67.out HF7.out _ (by rw [HS.out, HSY.out]))) (by with_reducible (repeat (first | exact Gn.refl _ | refine Gn.gr ?_ _ | refine Gn.alloc ?_ _ | refine Gn.drew ?_))), hE, (show Hi w hb xs l m from H.out).ok.append (show Hi w ob ys l' m' from HO.out).ok, by simp; omega⟩⟩, (show Kp (fun j => j = hb) w w7 from HK.out).trans (((show Kp (fun j => j = hb) w7 w9 from HK9.out).set hb 65 _ rfl).gn (by with_reducible (repeat (first | exact Gn.refl _ | refine Gn.gr ?_ _ | refine Gn.alloc ?_ _ | refine Gn.drew ?_))))⟩
    · have hl2 : (if xs.length = 0 ∨ l' < l then l' else l) = l := if_neg (by omega)
      have HL2 : Hid _ := hl2
      have dl : decide (l' < l) = false := by rw [decide_eq_false_iff_not]; exact hnl
      clear h0 hl2
      go_enter Try.func7, Try.ntmps7
      go_wp2_with (go_at_call 12; refine (count_is _ HO.out).mono ?_; rintro e w' ⟨rfl, rfl⟩)
      refine wp_region_gr (by kernel_rfl) (by kernel_rfl) ?_
      repeat (go_big_quiet_step (fail))
      refine wpQuiet_nil ?_
      rintro _ ⟨q1, rfl⟩
      go_wp2
      have H5 : ∃ f : Nat → Int, Nums (w.gr q1) hb 68 f ∧ f 66 = (l) ∧ (∀ j, j < 68 → j ≠ 66 → f j = hf xs l m j) ∧ Kp (fun j => j = hb) w (w.gr q1) :=
        ⟨_, (show Hi w hb xs l m from H.out).nums.grown (Gn.gr (Gn.refl _) _), by simp [hf], fun j hj hj2 => by simp [hj2], (Kp.refl (fun j => j = hb) w).gn (Gn.gr (Gn.refl _) _)⟩
      generalize (w.gr q1) = w5 at *
      obtain ⟨f, hN, h66, hf5, hK⟩ := H5
      have hNo : Nums w5 ob 68 (hf ys l' m') := (show Hi w ob ys l' m' from HO.out).nums.kept hK hne
      have c67 := (hN.2 67 (by omega)).1
      rw [hf5 67 (by omega) (by omega), show hf xs l m 67 = m by simp [hf]] at c67
      have f67 := (hN.2 67 (by omega)).2
      have o67 := (hNo.2 67 (by omega)).1
      rw [show hf ys l' m' 67 = m' by simp [hf]] at o67
      have hl5 := hN.1
      have ol5 := hNo.1
      have HN : Hid _ := hN
      have HNO : Hid _ := hNo
      have H66 : Hid _ := h66
      have HF5 : Hid _ := hf5
      have HK : Hid _ := hK
      clear hN hNo h66 hf5 hK c0 c1 c2 c3 f0 f1 f2 f3 hl o0 o1 o2 o3 ol
      refine wp_region_z 12 13 (by kernel_rfl) rfl ?_
      refine wpMix_pick 0 (by kernel_rfl) rfl (by kernel_rfl) (by with_reducible (repeat (first | exact Gn.refl _ | refine Gn.gr ?_ _ | refine Gn.alloc ?_ _ | refine Gn.drew ?_))) (by kernel_rfl) (fun K hK => ?_); go_simp; first | (refine hK _ ?_; clear hK K) | (apply Exists.intro; refine ⟨fun _ => ?_, hK _ ?_⟩; first | (fail); clear hK K)
      refine wpMix_pick 1 (by kernel_rfl) rfl (by kernel_rfl) (by with_reducible (repeat (first | exact Gn.refl _ | refine Gn.gr ?_ _ | refine Gn.alloc ?_ _ | refine Gn.drew ?_))) (by kernel_rfl) (fun K hK => ?_); go_simp; first | (refine hK _ ?_; clear hK K) | (apply Exists.intro; refine ⟨fun _ => ?_, hK _ ?_⟩; first | (fail); clear hK K)
      refine wpMix_pick 2 (by kernel_rfl) rfl (by kernel_rfl) (by with_reducible (repeat (first | exact Gn.refl _ | refine Gn.gr ?_ _ | refine Gn.alloc ?_ _ | refine Gn.drew ?_))) (by kernel_rfl) (fun K hK => ?_); go_simp; first | (refine hK _ ?_; clear hK K) | (apply Exists.intro; refine ⟨fun _ => ?_, hK _ ?_⟩; first | (fail); clear hK K)
      refine wpMix_pick 3 (by kernel_rfl) rfl (by kernel_rfl) (by with_reducible (repeat (first | exact Gn.refl _ | refine Gn.gr ?_ _ | refine Gn.alloc ?_ _ | refine Gn.drew ?_))) (by kernel_rfl) (fun K hK => ?_); go_simp; first | (refine hK _ ?_; clear hK K) | (apply Exists.intro; refine ⟨fun _ => ?_, hK _ ?_⟩; first | (fail); clear hK K)
      refine wpMix_pick 4 (by kernel_rfl) rfl (by kernel_rfl) (by with_reducible (repeat (first | exact Gn.refl _ | refine Gn.gr ?_ _ | refine Gn.alloc ?_ _ | refine Gn.drew ?_))) (by kernel_rfl) (fun K hK => ?_); go_simp; first | (refine hK _ ?_; clear hK K) | (apply Exists.intro; refine ⟨fun _ => ?_, hK _ ?_⟩; first | (fail); clear hK K)
      refine wpMix_pick 5 (by kernel_rfl) rfl (by kernel_rfl) (by with_reducible (repeat (first | exact Gn.refl _ | refine Gn.gr ?_ _ | refine Gn.alloc ?_ _ | refine Gn.drew ?_))) (by kernel_rfl) (fun K hK => ?_); go_simp; first | (refine hK _ ?_; clear hK K) | (apply Exists.intro; refine ⟨fun _ => ?_, hK _ ?_⟩; first | (fail); clear hK K)
      refine wpMix_pick 6 (by kernel_rfl) rfl (by kernel_rfl) (by with_reducible (repeat (first | exact Gn.refl _ | refine Gn.gr ?_ _ | refine Gn.alloc ?_ _ | refine Gn.drew ?_))) (by kernel_rfl) (fun K hK => ?_); go_simp; first | (refine hK _ ?_; clear hK K) | (apply Exists.intro; refine ⟨fun _ => ?_, hK _ ?_⟩; first | (fail); clear hK K)
      refine wpMix_pick 7 (by kernel_rfl) rfl (by kernel_rfl) (by with_reducible (repeat (first | exact Gn.refl _ | refine Gn.gr ?_ _ | refine Gn.alloc ?_ _ | refine Gn.drew ?_))) (by kernel_rfl) (fun K hK => ?_); go_simp; first | (refine hK _ ?_; clear hK K) | (apply Exists.intro; refine ⟨fun _ => ?_, hK _ ?_⟩; first | (fail); clear hK K)
      refine wpMix_pick 8 (by kernel_rfl) rfl (by kernel_rfl) (by with_reducible (repeat (first | exact Gn.refl _ | refine Gn.gr ?_ _ | refine Gn.alloc ?_ _ | refine Gn.drew ?_))) (by kernel_rfl) (fun K hK => ?_); go_simp; first | (refine hK _ ?_; clear hK K) | (apply Exists.intro; refine ⟨fun _ => ?_, hK _ ?_⟩; first | (fail); clear hK K)
      refine wpMix_pick 9 (by kernel_rfl) rfl (by kernel_rfl) (by with_reducible (repeat (first | exact Gn.refl _ | refine Gn.gr ?_ _ | refine Gn.alloc ?_ _ | refine Gn.drew ?_))) (by kernel_rfl) (fun K hK => ?_); go_simp; first | (refine hK _ ?_; clear hK K) | (apply Exists.intro; refine ⟨fun _ => ?_, hK _ ?_⟩; first | (fail); clear hK K)
      refine wpMix_one (i := 10) (by kernel_rfl) rfl ?_
      intro p10
      go_wp2
      refine ⟨(by with_reducible (repeat (first | exact Gn.refl _ | refine Gn.gr ?_ _ | refine Gn.alloc ?_ _ | refine Gn.drew ?_))), ?_⟩
      refine wpMix_one (i := 11) (by kernel_rfl) rfl ?_
      intro p11
      go_wp2
      refine ⟨(by with_reducible (repeat (first | exact Gn.refl _ | refine Gn.gr ?_ _ | refine Gn.alloc ?_ _ | refine Gn.drew ?_))), ?_⟩
      refine wpMix_one (i := 12) (by kernel_rfl) rfl ?_
      intro p12
      go_wp2
      refine wpMix_done (by kernel_rfl) ?_
      intro pz
      have H7 : ∃ f7 : Nat → Int, Nums (((w5.setCell ⟨hb, 67, none⟩ (.int .i64 (max m m'))).gr ⟨p12.d, p10.os ++ (p11.os ++ p12.os)⟩).gr pz) hb 68 f7 ∧ f7 66 = l ∧ f7 67 = max m m' ∧ (∀ j, j < 66 → f7 j = hf xs l m j) ∧ Kp (fun j => j = hb) w (((w5.setCell ⟨hb, 67, none⟩ (.int .i64 (max m m'))).gr ⟨p12.d, p10.os ++ (p11.os ++ p12.os)⟩).gr pz) :=
        ⟨_, ((show Nums w5 hb 68 f from HN.out).set 67 (max m m')).grown (Gn.gr (Gn.gr (Gn.refl _) _) _), by simp; exact H66.out, by simp, fun j hj => by simp [show ¬ j = 67 by omega]; exact HF5.out j (by omega) (by omega), ((show Kp (fun j => j = hb) w w5 from HK.out).set hb 67 _ rfl).gn (Gn.gr (Gn.gr (Gn.refl _) _) _)⟩
      clear HN HNO H66 HF5 HK c67 f67 o67 hl5 ol5
      generalize (((w5.setCell ⟨hb, 67, none⟩ (.int .i64 (max m m'))).gr ⟨p12.d, p10.os ++ (p11.os ++ p12.os)⟩).gr pz) = w7 at *
      obtain ⟨f7, hN, h66, h67, hf7, hK⟩ := H7
      have hNo : Nums w7 ob 68 (hf ys l' m') := (show Hi w ob ys l' m' from HO.out).nums.kept hK hne
      have HN : Hid _ := hN
      have HNO : Hid _ := hNo
      have H66 : Hid _ := h66
      have H67 : Hid _ := h67
      have HF7 : Hid _ := hf7
      have HK : Hid _ := hK
      have ol7 := hNo.1
      clear hN hNo h66 h67 hf7 hK
      go_wp2_with (refine wpList_load_arr rfl _ rfl ob rfl (fun j => .int .i64 (cW ys j : Int)) (fun j hj => by have hh := ((show Nums w7 ob 68 (hf ys l' m') from HNO.out).2 j (by omega)).1; unfold hf at hh; rw [if_pos hj] at hh; exact hh) ?_; intro A hA; have HA : Hid _ := hA; clear hA)
      go_loopw [52] (fun i wr => ∃ k : Nat, k ≤ 64 ∧ i = .int .i64 k ∧ Nums wr hb 68 (adF f7 ys k) ∧ Kp (fun j => j = hb) w7 wr) (fun i _ => 64 - (intOf i).toNat)
      case atStart => exact ⟨0, by omega, rfl, (show Nums w7 hb 68 f7 from HN.out).congr (fun j _ => by simp [adF]), Kp.refl _ _⟩
      case round =>
        obtain ⟨k, hk, rfl, hN, hK⟩ := hrel
        by_cases hlt : k < 64
        · have hix := run_index_arr A k (cW ys k : Int) hlt (HA.out k hlt)
          have cr := (hN.2 k (by omega)).1
          rw [show adF f7 ys k k = (cW xs k : Int) by unfold adF; rw [if_neg (by omega), HF7.out k (by omega)]; unfold hf; rw [if_pos hlt]] at cr
          have fr := (hN.2 k (by omega)).2
          have hlr := hN.1
          have b1 := cW_le xs k
          have b2 := cW_le ys k
          have hki : (k : Int) < 64 := by omega
          have HN2 : Hid _ := hN
          have HK2 : Hid _ := hK
          clear hN hK
          go_wp2
          refine wp_region_z 11 12 (by kernel_rfl) rfl ?_
          refine wpMix_pick 0 (by kernel_rfl) rfl (by kernel_rfl) (by with_reducible (repeat (first | exact Gn.refl _ | refine Gn.gr ?_ _ | refine Gn.alloc ?_ _ | refine Gn.drew ?_))) (by kernel_rfl) (fun K hK => ?_); go_simp; first | (refine hK _ ?_; clear hK K) | (apply Exists.intro; refine ⟨fun _ => ?_, hK _ ?_⟩; first | (fail); clear hK K)
          refine wpMix_pick 1 (by kernel_rfl) rfl (by kernel_rfl) (by with_reducible (repeat (first | exact Gn.refl _ | refine Gn.gr ?_ _ | refine Gn.alloc ?_ _ | refine Gn.drew ?_))) (by kernel_rfl) (fun K hK => ?_); go_simp; first | (refine hK _ ?_; clear hK K) | (apply Exists.intro; refine ⟨fun _ => ?_, hK _ ?_⟩; first | (fail); clear hK K)
          refine wpMix_pick 2 (by kernel_rfl) rfl (by kernel_rfl) (by with_reducible (repeat (first | exact Gn.refl _ | refine Gn.gr ?_ _ | refine Gn.alloc ?_ _ | refine Gn.drew ?_))) (by kernel_rfl) (fun K hK => ?_); go_simp; first | (refine hK _ ?_; clear hK K) | (apply Exists.intro; refine ⟨fun _ => ?_, hK _ ?_⟩; first | (fail); clear hK K)
          refine wpMix_pick 3 (by kernel_rfl) rfl (by kernel_rfl) (by with_reducible (repeat (first | exact Gn.refl _ | refine Gn.gr ?_ _ | refine Gn.alloc ?_ _ | refine Gn.drew ?_))) (by kernel_rfl) (fun K hK => ?_); go_simp; first | (refine hK _ ?_; clear hK K) | (apply Exists.intro; refine ⟨fun _ => ?_, hK _ ?_⟩; first | (fail); clear hK K)
          refine wpMix_pick 4 (by kernel_rfl) rfl (by kernel_rfl) (by with_reducible (repeat (first | exact Gn.refl _ | refine Gn.gr ?_ _ | refine Gn.alloc ?_ _ | refine Gn.drew ?_))) (by kernel_rfl) (fun K hK => ?_); go_simp; first | (refine hK _ ?_; clear hK K) | (apply Exists.intro; refine ⟨fun _ => ?_, hK _ ?_⟩; first | (fail); clear hK K)
          refine wpMix_pick 5 (by kernel_rfl) rfl (by kernel_rfl) (by with_reducible (repeat (first | exact Gn.refl _ | refine Gn.gr ?_ _ | refine Gn.alloc ?_ _ | refine Gn.drew ?_))) (by kernel_rfl) (fun K hK => ?_); go_simp; first | (refine hK _ ?_; clear hK K) | (apply Exists.intro; refine ⟨fun _ => ?_, hK _ ?_⟩; first | (fail); clear hK K)
          refine wpMix_pick 6 (by kernel_rfl) rfl (by kernel_rfl) (by with_reducible (repeat (first | exact Gn.refl _ | refine Gn.gr ?_ _ | refine Gn.alloc ?_ _ | refine Gn.drew ?_))) (by kernel_rfl) (fun K hK => ?_); go_simp; first | (refine hK _ ?_; clear hK K) | (apply Exists.intro; refine ⟨fun _ => ?_, hK _ ?_⟩; first | (fail); clear hK K)
          refine wpMix_pick 7 (by kernel_rfl) rfl (by kernel_rfl) (by with_reducible (repeat (first | exact Gn.refl _ | refine Gn.gr ?_ _ | refine Gn.alloc ?_ _ | refine Gn.drew ?_))) (by kernel_rfl) (fun K hK => ?_); go_simp; first | (refine hK _ ?_; clear hK K) | (apply Exists.intro; refine ⟨fun _ => ?_, hK _ ?_⟩; first | (fail); clear hK K)
          refine wpMix_one (i := 8) (by kernel_rfl) rfl ?_
          intro s8
          go_wp2
          refine ⟨(by with_reducible (repeat (first | exact Gn.refl _ | refine Gn.gr ?_ _ | refine Gn.alloc ?_ _ | refine Gn.drew ?_))), ?_⟩
          refine wpMix_one (i := 9) (by kernel_rfl) rfl ?_
          intro s9
          go_wp2
          refine ⟨(by with_reducible (repeat (first | exact Gn.refl _ | refine Gn.gr ?_ _ | refine Gn.alloc ?_ _ | refine Gn.drew ?_))), ?_⟩
          refine wpMix_one (i := 10) (by kernel_rfl) rfl ?_
          intro s10
          go_wp2
          refine ⟨(by with_reducible (repeat (first | exact Gn.refl _ | refine Gn.gr ?_ _ | refine Gn.alloc ?_ _ | refine Gn.drew ?_))), ?_⟩
          refine wpMix_one (i := 11) (by kernel_rfl) rfl ?_
          intro s11
          go_wp2
          refine wpMix_done (by kernel_rfl) ?_
          intro sz
          go_wp2
          go_roundw
          case rel =>
            refine ⟨k + 1, by omega, by go_num, Nums.grown (Nums.congr (Nums.set (show Nums wr hb 68 (adF f7 ys k) from HN2.out) k ((cW xs k : Int) + (cW ys k : Int))) (fun j hj => ?_)) (by with_reducible (repeat (first | exact Gn.refl _ | refine Gn.gr ?_ _ | refine Gn.alloc ?_ _ | refine Gn.drew ?_))), Kp.gn (Kp.set (show Kp (fun j => j = hb) w7 wr from HK2.out) hb k _ rfl) (by with_reducible (repeat (first | exact Gn.refl _ | refine Gn.gr ?_ _ | refine Gn.alloc ?_ _ | refine Gn.drew ?_)))⟩
            show (if j = k then (cW xs k : Int) + (cW ys k : Int) else adF f7 ys k j) = adF f7 ys (k + 1) j
            unfold adF
            by_cases hjk : j = k
            · subst hjk
              rw [if_pos rfl, if_pos (by omega), HF7.out j (by omega)]; unfold hf; rw [if_pos hlt]
            · rw [if_neg hjk]
              by_cases h2 : j < k
              · rw [if_pos h2, if_pos (by omega)]
              · rw [if_neg h2, if_neg (by omega)]
          case measure => simp [intOf]; omega
        · obtain rfl : k = 64 := by omega
          have hNo := (show Nums w7 ob 68 (hf ys l' m') from HNO.out).kept hK hne
          have c64 := (hN.2 64 (by omega)).1
          rw [show adF f7 ys 64 64 = (xs.length : Int) by unfold adF; rw [if_neg (by omega), HF7.out 64 (by omega)]; simp [hf]] at c64
          have f64 := (hN.2 64 (by omega)).2
          have c65 := (hN.2 65 (by omega)).1
          rw [show adF f7 ys 64 65 = S by unfold adF; rw [if_neg (by omega), HF7.out 65 (by omega)]; simp [hf]; exact HS.out] at c65
          have f65 := (hN.2 65 (by omega)).2
          have o64 := (hNo.2 64 (by omega)).1
          rw [show hf ys l' m' 64 = (ys.length : Int) by simp [hf]] at o64
          have o65 := (hNo.2 65 (by omega)).1
          rw [show hf ys l' m' 65 = SY by simp [hf]; exact HSY.out] at o65
          have hlr := hN.1
          have olr := hNo.1
          have HN2 : Hid _ := hN
          have HK2 : Hid _ := hK
          clear hN hK hNo
          go_wp2
          refine wp_region_z 11 12 (by kernel_rfl) rfl ?_
          refine wpMix_pick 0 (by kernel_rfl) rfl (by kernel_rfl) (by with_reducible (repeat (first | exact Gn.refl _ | refine Gn.gr ?_ _ | refine Gn.alloc ?_ _ | refine Gn.drew ?_))) (by kernel_rfl) (fun K hK => ?_); go_simp; first | (refine hK _ ?_; clear hK K) | (apply Exists.intro; refine ⟨fun _ => ?_, hK _ ?_⟩; first | (fail); clear hK K)
          refine wpMix_pick 1 (by kernel_rfl) rfl (by kernel_rfl) (by with_reducible (repeat (first | exact Gn.refl _ | refine Gn.gr ?_ _ | refine Gn.alloc ?_ _ | refine Gn.drew ?_))) (by kernel_rfl) (fun K hK => ?_); go_simp; first | (refine hK _ ?_; clear hK K) | (apply Exists.intro; refine ⟨fun _ => ?_, hK _ ?_⟩; first | (fail); clear hK K)
          refine wpMix_pick 2 (by kernel_rfl) rfl (by kernel_rfl) (by with_reducible (repeat (first | exact Gn.refl _ | refine Gn.gr ?_ _ | refine Gn.alloc ?_ _ | refine Gn.drew ?_))) (by kernel_rfl) (fun K hK => ?_); go_simp; first | (refine hK _ ?_; clear hK K) | (apply Exists.intro; refine ⟨fun _ => ?_, hK _ ?_⟩; first | (fail); clear hK K)
          refine wpMix_pick 3 (by kernel_rfl) rfl (by kernel_rfl) (by with_reducible (repeat (first | exact Gn.refl _ | refine Gn.gr ?_ _ | refine Gn.alloc ?_ _ | refine Gn.drew ?_))) (by kernel_rfl) (fun K hK => ?_); go_simp; first | (refine hK _ ?_; clear hK K) | (apply Exists.intro; refine ⟨fun _ => ?_, hK _ ?_⟩; first | (fail); clear hK K)
          refine wpMix_pick 4 (by kernel_rfl) rfl (by kernel_rfl) (by with_reducible (repeat (first | exact Gn.refl _ | refine Gn.gr ?_ _ | refine Gn.alloc ?_ _ | refine Gn.drew ?_))) (by kernel_rfl) (fun K hK => ?_); go_simp; first | (refine hK _ ?_; clear hK K) | (apply Exists.intro; refine ⟨fun _ => ?_, hK _ ?_⟩; first | (fail); clear hK K)
          refine wpMix_pick 5 (by kernel_rfl) rfl (by kernel_rfl) (by with_reducible (repeat (first | exact Gn.refl _ | refine Gn.gr ?_ _ | refine Gn.alloc ?_ _ | refine Gn.drew ?_))) (by kernel_rfl) (fun K hK => ?_); go_simp; first | (refine hK _ ?_; clear hK K) | (apply Exists.intro; refine ⟨fun _ => ?_, hK _ ?_⟩; first | (fail); clear hK K)
          refine wpMix_pick 6 (by kernel_rfl) rfl (by kernel_rfl) (by with_reducible (repeat (first | exact Gn.refl _ | refine Gn.gr ?_ _ | refine Gn.alloc ?_ _ | refine Gn.drew ?_))) (by kernel_rfl) (fun K hK => ?_); go_simp; first | (refine hK _ ?_; clear hK K) | (apply Exists.intro; refine ⟨fun _ => ?_, hK _ ?_⟩; first | (fail); clear hK K)
          refine wpMix_pick 7 (by kernel_rfl) rfl (by kernel_rfl) (by with_reducible (repeat (first | exact Gn.refl _ | refine Gn.gr ?_ _ | refine Gn.alloc ?_ _ | refine Gn.drew ?_))) (by kernel_rfl) (fun K hK => ?_); go_simp; first | (refine hK _ ?_; clear hK K) | (apply Exists.intro; refine ⟨fun _ => ?_, hK _ ?_⟩; first | (fail); clear hK K)
          refine wpMix_pick 8 (by kernel_rfl) rfl (by kernel_rfl) (by with_reducible (repeat (first | exact Gn.refl _ | refine Gn.gr ?_ _ | refine Gn.alloc ?_ _ | refine Gn.drew ?_))) (by kernel_rfl) (fun K hK => ?_); go_simp; first | (refine hK _ ?_; clear hK K) | (apply Exists.intro; refine ⟨fun _ => ?_, hK _ ?_⟩; first | (fail); clear hK K)
          refine wpMix_one (i := 9) (by kernel_rfl) rfl ?_
          intro t9
          go_wp2
          refine ⟨(by with_reducible (repeat (first | exact Gn.refl _ | refine Gn.gr ?_ _ | refine Gn.alloc ?_ _ | refine Gn.drew ?_))), ?_⟩
          refine wpMix_one (i := 10) (by kernel_rfl) rfl ?_
          intro t10
          go_wp2
          refine ⟨(by with_reducible (repeat (first | exact Gn.refl _ | refine Gn.gr ?_ _ | refine Gn.alloc ?_ _ | refine Gn.drew ?_))), ?_⟩
          refine wpMix_one (i := 11) (by kernel_rfl) rfl ?_
          intro t11
          go_wp2
          refine wpMix_done (by kernel_rfl) ?_
          intro tz
          go_wp2
          have H9 : Nums (((wr.setCell ⟨hb, 64, none⟩ (.int .i64 ((xs.length : Int) + (ys.length : Int)))).gr ⟨t11.d, t9.os ++ (t10.os ++ t11.os)⟩).gr tz) hb 68 (fun j => if j = 64 then (xs.length : Int) + (ys.length : Int) else adF f7 ys 64 j) ∧ Kp (fun j => j = hb) w7 (((wr.setCell ⟨hb, 64, none⟩ (.int .i64 ((xs.length : Int) + (ys.length : Int)))).gr ⟨t11.d, t9.os ++ (t10.os ++ t11.os)⟩).gr tz) :=
            ⟨((show Nums wr hb 68 (adF f7 ys 64) from HN2.out).set 64 _).grown (Gn.gr (Gn.gr (Gn.refl _) _) _), ((show Kp (fun j => j = hb) w7 wr from HK2.out).set hb 64 _ rfl).gn (Gn.gr (Gn.gr (Gn.refl _) _) _)⟩
          have hKo : Kp (fun j => j = hb) wr (((wr.setCell ⟨hb, 64, none⟩ (.int .i64 ((xs.length : Int) + (ys.length : Int)))).gr ⟨t11.d, t9.os ++ (t10.os ++ t11.os)⟩).gr tz) := ((Kp.refl (fun j => j = hb) wr).set hb 64 _ rfl).gn (Gn.gr (Gn.gr (Gn.refl _) _) _)
          replace o65 := hKo.cell o65 hne
          clear HN2 HK2 c64 f64 c65 f65 o64 hlr olr hKo
          generalize (((wr.setCell ⟨hb, 64, none⟩ (.int .i64 ((xs.length : Int) + (ys.length : Int)))).gr ⟨t11.d, t9.os ++ (t10.os ++ t11.os)⟩).gr tz) = w9 at *
          obtain ⟨hN, hK⟩ := H9
          have c65 := (hN.2 65 (by omega)).1
          simp only [show ¬ 65 = 64 by omega, if_false] at c65
          rw [show adF f7 ys 64 65 = S by unfold adF; rw [if_neg (by omega), HF7.out 65 (by omega)]; simp [hf]; exact HS.out] at c65
          have f65 := (hN.2 65 (by omega)).2
          have hl9 := hN.1
          have ol9 := World.block_lt_of_cell? w9 _ o65
          replace ol9 : ob < w9.heap.size := ol9
          have HN9 : Hid _ := hN
          have HK9 : Hid _ := hK
          clear hN hK
          refine wp_region_z 17 18 (by kernel_rfl) rfl ?_
          refine wpMix_pick 0 (by kernel_rfl) rfl (by kernel_rfl) (by with_reducible (repeat (first | exact Gn.refl _ | refine Gn.gr ?_ _ | refine Gn.alloc ?_ _ | refine Gn.drew ?_))) (by kernel_rfl) (fun K hK => ?_); go_simp; first | (refine hK _ ?_; clear hK K) | (apply Exists.intro; refine ⟨fun _ => ?_, hK _ ?_⟩; first | (fail); clear hK K)
          refine wpMix_pick 1 (by kernel_rfl) rfl (by kernel_rfl) (by with_reducible (repeat (first | exact Gn.refl _ | refine Gn.gr ?_ _ | refine Gn.alloc ?_ _ | refine Gn.drew ?_))) (by kernel_rfl) (fun K hK => ?_); go_simp; first | (refine hK _ ?_; clear hK K) | (apply Exists.intro; refine ⟨fun _ => ?_, hK _ ?_⟩; first | (fail); clear hK K)
          refine wpMix_pick 2 (by kernel_rfl) rfl (by kernel_rfl) (by with_reducible (repeat (first | exact Gn.refl _ | refine Gn.gr ?_ _ | refine Gn.alloc ?_ _ | refine Gn.drew ?_))) (by kernel_rfl) (fun K hK => ?_); go_simp; first | (refine hK _ ?_; clear hK K) | (apply Exists.intro; refine ⟨fun _ => ?_, hK _ ?_⟩; first | (fail); clear hK K)
          refine wpMix_pick 3 (by kernel_rfl) rfl (by kernel_rfl) (by with_reducible (repeat (first | exact Gn.refl _ | refine Gn.gr ?_ _ | refine Gn.alloc ?_ _ | refine Gn.drew ?_))) (by kernel_rfl) (fun K hK => ?_); go_simp; first | (refine hK _ ?_; clear hK K) | (apply Exists.intro; refine ⟨fun _ => ?_, hK _ ?_⟩; first | (fail); clear hK K)
          refine wpMix_pick 4 (by kernel_rfl) rfl (by kernel_rfl) (by with_reducible (repeat (first | exact Gn.refl _ | refine Gn.gr ?_ _ | refine Gn.alloc ?_ _ | refine Gn.drew ?_))) (by kernel_rfl) (fun K hK => ?_); go_simp; first | (refine hK _ ?_; clear hK K) | (apply Exists.intro; refine ⟨fun _ => ?_, hK _ ?_⟩; first | (fail); clear hK K)
          refine wpMix_pick 5 (by kernel_rfl) rfl (by kernel_rfl) (by with_reducible (repeat (first | exact Gn.refl _ | refine Gn.gr ?_ _ | refine Gn.alloc ?_ _ | refine Gn.drew ?_))) (by kernel_rfl) (fun K hK => ?_); go_simp; first | (refine hK _ ?_; clear hK K) | (apply Exists.intro; refine ⟨fun _ => ?_, hK _ ?_⟩; first | (fail); clear hK K)
          refine wpMix_pick 6 (by kernel_rfl) rfl (by kernel_rfl) (by with_reducible (repeat (first | exact Gn.refl _ | refine Gn.gr ?_ _ | refine Gn.alloc ?_ _ | refine Gn.drew ?_))) (by kernel_rfl) (fun K hK => ?_); go_simp; first | (refine hK _ ?_; clear hK K) | (apply Exists.intro; refine ⟨fun _ => ?_, hK _ ?_⟩; first | (fail); clear hK K)
          refine wpMix_pick 7 (by kernel_rfl) rfl (by kernel_rfl) (by with_reducible (repeat (first | exact Gn.refl _ | refine Gn.gr ?_ _ | refine Gn.alloc ?_ _ | refine Gn.drew ?_))) (by kernel_rfl) (fun K hK => ?_); go_simp; first | (refine hK _ ?_; clear hK K) | (apply Exists.intro; refine ⟨fun _ => ?_, hK _ ?_⟩; first | (fail); clear hK K)
          refine wpMix_pick 8 (by kernel_rfl) rfl (by kernel_rfl) (by with_reducible (repeat (first | exact Gn.refl _ | refine Gn.gr ?_ _ | refine Gn.alloc ?_ _ | refine Gn.drew ?_))) (by kernel_rfl) (fun K hK => ?_); go_simp; first | (refine hK _ ?_; clear hK K) | (apply Exists.intro; refine ⟨fun _ => ?_, hK _ ?_⟩; first | (fail); clear hK K)
          refine wpMix_pick 9 (by kernel_rfl) rfl (by kernel_rfl) (by with_reducible (repeat (first | exact Gn.refl _ | refine Gn.gr ?_ _ | refine Gn.alloc ?_ _ | refine Gn.drew ?_))) (by kernel_rfl) (fun K hK => ?_); go_simp; first | (refine hK _ ?_; clear hK K) | (apply Exists.intro; refine ⟨fun _ => ?_, hK _ ?_⟩; first | (fail); clear hK K)
          refine wpMix_pick 10 (by kernel_rfl) rfl (by kernel_rfl) (by with_reducible (repeat (first | exact Gn.refl _ | refine Gn.gr ?_ _ | refine Gn.alloc ?_ _ | refine Gn.drew ?_))) (by kernel_rfl) (fun K hK => ?_); go_simp; first | (refine hK _ ?_; clear hK K) | (apply Exists.intro; refine ⟨fun _ => ?_, hK _ ?_⟩; first | (fail); clear hK K)
          refine wpMix_pick 11 (by kernel_rfl) rfl (by kernel_rfl) (by with_reducible (repeat (first | exact Gn.refl _ | refine Gn.gr ?_ _ | refine Gn.alloc ?_ _ | refine Gn.drew ?_))) (by kernel_rfl) (fun K hK => ?_); go_simp; first | (refine hK _ ?_; clear hK K) | (apply Exists.intro; refine ⟨fun _ => ?_, hK _ ?_⟩; first | (fail); clear hK K)
          refine wpMix_pick 12 (by kernel_rfl) rfl (by kernel_rfl) (by with_reducible (repeat (first | exact Gn.refl _ | refine Gn.gr ?_ _ | refine Gn.alloc ?_ _ | refine Gn.drew ?_))) (by kernel_rfl) (fun K hK => ?_); go_simp; first | (refine hK _ ?_; clear hK K) | (apply Exists.intro; refine ⟨fun _ => ?_, hK _ ?_⟩; first | (fail); clear hK K)
          refine wpMix_pick 13 (by kernel_rfl) rfl (by kernel_rfl) (by with_reducible (repeat (first | exact Gn.refl _ | refine Gn.gr ?_ _ | refine Gn.alloc ?_ _ | refine Gn.drew ?_))) (by kernel_rfl) (fun K hK => ?_); go_simp; first | (refine hK _ ?_; clear hK K) | (apply Exists.intro; refine ⟨fun _ => ?_, hK _ ?_⟩; first | (fail); clear hK K)
          refine wpMix_pick 14 (by kernel_rfl) rfl (by kernel_rfl) (by with_reducible (repeat (first | exact Gn.refl _ | refine Gn.gr ?_ _ | refine Gn.alloc ?_ _ | refine Gn.drew ?_))) (by kernel_rfl) (fun K hK => ?_); go_simp; first | (refine hK _ ?_; clear hK K) | (apply Exists.intro; refine ⟨fun _ => ?_, hK _ ?_⟩; first | (fail); clear hK K)
          refine wpMix_one (i := 15) (by kernel_rfl) rfl ?_
          intro v15
          go_wp2
          refine ⟨(by with_reducible (repeat (first | exact Gn.refl _ | refine Gn.gr ?_ _ | refine Gn.alloc ?_ _ | refine Gn.drew ?_))), ?_⟩
          refine wpMix_one (i := 16) (by kernel_rfl) rfl ?_
          intro v16
          go_wp2
          refine ⟨(by with_reducible (repeat (first | exact Gn.refl _ | refine Gn.gr ?_ _ | refine Gn.alloc ?_ _ | refine Gn.drew ?_))), ?_⟩
          refine wpMix_one (i := 17) (by kernel_rfl) rfl ?_
          intro v17
          go_wp2
          refine wpMix_done (by kernel_rfl) ?_
          intro vz
          go_wp2
          have hE : Ends (xs ++ ys) l (max m m') := by
            have e := (show Ends (xs ++ ys) (if xs.length = 0 ∨ l' < l then l' else l) (if m < m' then m' else m) from HE.out)
            rw [HL2.out, show (if m < m' then m' else m) = max m m' by split <;> omega] at e
            exact e
          go_end0
          exact ⟨⟨_, rfl⟩, ⟨l, max m m', ⟨Nums.grown (Nums.congr (Nums.set HN9.out 65 _) (add_eq xs ys l m l (max m m') (show Hi w hb xs l m from H.out).ok (show Hi w ob ys l' m' from HO.out).ok f7 H66.out H67.out HF7.out _ (by rw [HS.out, HSY.out]))) (by with_reducible (repeat (first | exact Gn.refl _ | refine Gn.gr ?_ _ | refine Gn.alloc ?_ _ | refine Gn.drew ?_))), hE, (show Hi w hb xs l m from H.out).ok.append (show Hi w ob ys l' m' from HO.out).ok, by simp; omega⟩⟩, (show Kp (fun j => j = hb) w w7 from HK.out).trans (((show Kp (fun j => j = hb) w7 w9 from HK9.out).set hb 65 _ rfl).gn (by with_reducible (repeat (first | exact Gn.refl _ | refine Gn.gr ?_ _ | refine Gn.alloc ?_ _ | refine Gn.drew ?_))))⟩
end Go.Proofs.Ytggfjpfjpinhoaa
