/- Put and Add of a histogram. -/
import Derived.Test.YtggfjpfjpinhoaaFnsC
namespace Go.Proofs.Ytggfjpfjpinhoaa
open Go.RowKit

theorem put_nil (n : Int) (w : World) : Calls Try.prog 6 #[.pointer none, .int .i64 n] w fun e w' => e = .returned (.bool false) ∧ w = w' := by
  go_enter Try.func6, Try.ntmps6
  go_wp2
  go_ret
  exact ⟨rfl, rfl⟩
theorem put_neg (hb : Nat) (n : Int) (w : World) (h : n < 0) : Calls Try.prog 6 #[.pointer (some ⟨hb, 0, none⟩), .int .i64 n] w fun e w' => e = .returned (.bool false) ∧ w = w' := by
  go_enter Try.func6, Try.ntmps6
  go_wp2
  go_ret
  exact ⟨rfl, rfl⟩
theorem put_eq (xs : List Int) (l m n l' m' : Int) (hn : 0 ≤ n) (hwn : wd n ≤ 63) (hok : Ok xs) (f : Nat → Int) (h66 : f 66 = l') (h67 : f 67 = m') (hf5 : ∀ j, j < 66 → f j = hf xs l m j) (s : Int) (hs : s = sat (sm xs) + min n (4611686018427387904 - sat (sm xs))) :
    ∀ j, j < 68 → (if j = 65 then s else if j = 64 then (xs.length : Int) + 1 else if j = wd n then (cW xs (wd n) : Int) + 1 else f j) = hf (xs ++ [n]) l' m' j := by
  intro j hj
  have hw : wd n = j → (cW (xs ++ [n]) j : Int) = (cW xs j : Int) + 1 := fun e => by rw [cW_snoc, if_pos e.symm]; omega
  have hw2 : ¬ wd n = j → (cW (xs ++ [n]) j : Int) = (cW xs j : Int) := fun e => by rw [cW_snoc, if_neg (fun h => e h.symm)]; omega
  unfold hf
  rcases Nat.lt_or_ge j 64 with h1 | h1
  · rw [if_neg (by omega), if_neg (by omega), if_pos h1]
    by_cases e : j = wd n
    · rw [if_pos e, hw e.symm, ← e]
    · rw [if_neg e, hw2 (fun h => e h.symm), hf5 j (by omega)]
      unfold hf
      rw [if_pos h1]
  · rw [if_neg (show ¬ j < 64 by omega)]
    have hj' : j = 64 ∨ j = 65 ∨ j = 66 ∨ j = 67 := by omega
    rcases hj' with rfl | rfl | rfl | rfl
    · simp
    · rw [if_pos rfl, if_neg (by omega), if_pos rfl, hs, sm_snoc]
      exact sat_add (sm_nonneg hok) hn
    · simp [show ¬ 66 = wd n by omega, h66]
    · simp [show ¬ 67 = wd n by omega, h67]
set_option maxHeartbeats 4000000 in
set_option maxRecDepth 100000 in
theorem put_is (hb : Nat) (xs : List Int) (l m n : Int) (w : World) (h : Hi w hb xs l m) (hn : 0 ≤ n) (hn1 : n ≤ 9223372036854775807) (hlen : xs.length < 1000) :
    Calls Try.prog 6 #[.pointer (some ⟨hb, 0, none⟩), .int .i64 n] w fun e w' => e = .returned (.bool true) ∧ (∃ l' m', Hi w' hb (xs ++ [n]) l' m') ∧ Kp (fun j => j = hb) w w' := by
  obtain ⟨hl, ⟨c0, c1, c2, c3⟩, f0, f1, f2, f3⟩ := h.facts
  have hw := wd_63 hn hn1
  have hends := h.ends.snoc hn
  have hok := h.ok
  have H : Hid _ := h
  have HE : Hid _ := hends
  have HO : Hid _ := hok
  have hsb := sat_bd (sm_nonneg hok)
  clear h hends hok
  obtain ⟨S, hS⟩ : ∃ S, sat (sm xs) = S := ⟨_, rfl⟩
  rw [hS] at c1 hsb
  have HS : Hid _ := hS
  clear hS
  by_cases h0 : xs.length = 0
  · have hz : ((xs.length : Int) == 0) = true := by simp; exact List.length_eq_zero_iff.1 h0
    have hl2 : (if xs.length = 0 ∨ n < l then n else l) = n := if_pos (.inl h0)
    have HL2 : Hid _ := hl2
    clear h0 hl2
    go_enter Try.func6, Try.ntmps6
    go_wp2
    have H5 : ∃ f : Nat → Int, Nums ((w.setCell ⟨hb, 66, none⟩ (.int .i64 n)).setCell ⟨hb, 67, none⟩ (.int .i64 (max m n))) hb 68 f ∧ f 66 = (n) ∧ f 67 = max m n ∧ (∀ j, j < 66 → f j = hf xs l m j) ∧ Kp (fun j => j = hb) w ((w.setCell ⟨hb, 66, none⟩ (.int .i64 n)).setCell ⟨hb, 67, none⟩ (.int .i64 (max m n))) :=
      ⟨_, ((show Hi w hb xs l m from H.out).nums.set 66 n).set 67 (max m n), by simp, by simp, fun j hj => by simp [show ¬ j = 67 by omega, show ¬ j = 66 by omega], ((Kp.refl (fun j => j = hb) w).set hb 66 _ rfl).set hb 67 _ rfl⟩
    generalize ((w.setCell ⟨hb, 66, none⟩ (.int .i64 n)).setCell ⟨hb, 67, none⟩ (.int .i64 (max m n))) = w5 at *
    obtain ⟨f, hN, h66, h67, hf5, hK⟩ := H5
    have cr := (hN.2 (wd n) (by omega)).1
    rw [hf5 (wd n) (by omega), show hf xs l m (wd n) = (cW xs (wd n) : Int) by unfold hf; rw [if_pos (by omega)]] at cr
    have fr := (hN.2 (wd n) (by omega)).2
    have c64 := (hN.2 64 (by omega)).1
    have c65 := (hN.2 65 (by omega)).1
    rw [hf5 64 (by omega), show hf xs l m 64 = (xs.length : Int) by simp [hf]] at c64
    rw [hf5 65 (by omega), show hf xs l m 65 = S by simp [hf]; exact HS.out] at c65
    have f64 := (hN.2 64 (by omega)).2
    have f65 := (hN.2 65 (by omega)).2
    have n64 : ¬ 64 = wd n := by omega
    have n65 : ¬ 65 = wd n := by omega
    have m64 : ¬ wd n = 64 := by omega
    have m65 : ¬ wd n = 65 := by omega
    have hl5 := hN.1
    have hwi : (wd n : Int) < 64 := by omega
    have hwr : IntKind.u64.wrap n = n := by rw [IntKind.wrap_u64]; omega
    have hcl := cW_le xs (wd n)
    have HN : Hid _ := hN
    have H66 : Hid _ := h66
    have H67 : Hid _ := h67
    have HF5 : Hid _ := hf5
    have HK : Hid _ := hK
    clear hN h66 h67 hf5 hK c0 c1 c2 c3 f0 f1 f2 f3 hl
    refine wp_region_z 12 13 (by kernel_rfl) rfl ?_
    refine wpMix_pick 0 (by kernel_rfl) rfl (by kernel_rfl) (by with_reducible (repeat (first | exact Gn.refl _ | refine Gn.gr ?_ _ | refine Gn.alloc ?_ _ | refine Gn.drew ?_))) (by kernel_rfl) (fun K hK => ?_); go_simp; first | (refine hK _ ?_; clear hK K) | (apply Exists.intro; refine ⟨fun _ => ?_, hK _ ?_⟩; first | ((go_at_call 19; exact Calls.in_qg_same (width_any _ _ (by omega)))); clear hK K)
    refine wpMix_pick 1 (by kernel_rfl) rfl (by kernel_rfl) (by with_reducible (repeat (first | exact Gn.refl _ | refine Gn.gr ?_ _ | refine Gn.alloc ?_ _ | refine Gn.drew ?_))) (by kernel_rfl) (fun K hK => ?_); go_simp; first | (refine hK _ ?_; clear hK K) | (apply Exists.intro; refine ⟨fun _ => ?_, hK _ ?_⟩; first | ((go_at_call 19; exact Calls.in_qg_same (width_any _ _ (by omega)))); clear hK K)
    refine wpMix_pick 2 (by kernel_rfl) rfl (by kernel_rfl) (by with_reducible (repeat (first | exact Gn.refl _ | refine Gn.gr ?_ _ | refine Gn.alloc ?_ _ | refine Gn.drew ?_))) (by kernel_rfl) (fun K hK => ?_); go_simp; first | (refine hK _ ?_; clear hK K) | (apply Exists.intro; refine ⟨fun _ => ?_, hK _ ?_⟩; first | ((go_at_call 19; exact Calls.in_qg_same (width_any _ _ (by omega)))); clear hK K)
    refine wpMix_pick 3 (by kernel_rfl) rfl (by kernel_rfl) (by with_reducible (repeat (first | exact Gn.refl _ | refine Gn.gr ?_ _ | refine Gn.alloc ?_ _ | refine Gn.drew ?_))) (by kernel_rfl) (fun K hK => ?_); go_simp; first | (refine hK _ ?_; clear hK K) | (apply Exists.intro; refine ⟨fun _ => ?_, hK _ ?_⟩; first | ((go_at_call 19; exact Calls.in_qg_same (width_any _ _ (by omega)))); clear hK K)
    refine wpMix_pick 4 (by kernel_rfl) rfl (by kernel_rfl) (by with_reducible (repeat (first | exact Gn.refl _ | refine Gn.gr ?_ _ | refine Gn.alloc ?_ _ | refine Gn.drew ?_))) (by kernel_rfl) (fun K hK => ?_); go_simp; first | (refine hK _ ?_; clear hK K) | (apply Exists.intro; refine ⟨fun _ => ?_, hK _ ?_⟩; first | ((go_at_call 19; exact Calls.in_qg_same (width_any _ _ (by omega)))); clear hK K)
    refine wpMix_pick 5 (by kernel_rfl) rfl (by kernel_rfl) (by with_reducible (repeat (first | exact Gn.refl _ | refine Gn.gr ?_ _ | refine Gn.alloc ?_ _ | refine Gn.drew ?_))) (by kernel_rfl) (fun K hK => ?_); go_simp; first | (refine hK _ ?_; clear hK K) | (apply Exists.intro; refine ⟨fun _ => ?_, hK _ ?_⟩; first | ((go_at_call 19; exact Calls.in_qg_same (width_any _ _ (by omega)))); clear hK K)
    refine wpMix_pick 6 (by kernel_rfl) rfl (by kernel_rfl) (by with_reducible (repeat (first | exact Gn.refl _ | refine Gn.gr ?_ _ | refine Gn.alloc ?_ _ | refine Gn.drew ?_))) (by kernel_rfl) (fun K hK => ?_); go_simp; first | (refine hK _ ?_; clear hK K) | (apply Exists.intro; refine ⟨fun _ => ?_, hK _ ?_⟩; first | ((go_at_call 19; exact Calls.in_qg_same (width_any _ _ (by omega)))); clear hK K)
    refine wpMix_pick 7 (by kernel_rfl) rfl (by kernel_rfl) (by with_reducible (repeat (first | exact Gn.refl _ | refine Gn.gr ?_ _ | refine Gn.alloc ?_ _ | refine Gn.drew ?_))) (by kernel_rfl) (fun K hK => ?_); go_simp; first | (refine hK _ ?_; clear hK K) | (apply Exists.intro; refine ⟨fun _ => ?_, hK _ ?_⟩; first | ((go_at_call 19; exact Calls.in_qg_same (width_any _ _ (by omega)))); clear hK K)
    refine wpMix_pick 8 (by kernel_rfl) rfl (by kernel_rfl) (by with_reducible (repeat (first | exact Gn.refl _ | refine Gn.gr ?_ _ | refine Gn.alloc ?_ _ | refine Gn.drew ?_))) (by kernel_rfl) (fun K hK => ?_); go_simp; first | (refine hK _ ?_; clear hK K) | (apply Exists.intro; refine ⟨fun _ => ?_, hK _ ?_⟩; first | ((go_at_call 19; exact Calls.in_qg_same (width_any _ _ (by omega)))); clear hK K)
    refine wpMix_one (i := 9) (by kernel_rfl) rfl ?_
    intro p9
    go_wp2
    refine ⟨(by with_reducible (repeat (first | exact Gn.refl _ | refine Gn.gr ?_ _ | refine Gn.alloc ?_ _ | refine Gn.drew ?_))), ?_⟩
    refine wpMix_one (i := 10) (by kernel_rfl) rfl ?_
    intro p10
    go_wp2
    refine ⟨(by with_reducible (repeat (first | exact Gn.refl _ | refine Gn.gr ?_ _ | refine Gn.alloc ?_ _ | refine Gn.drew ?_))), ?_⟩
    refine wpMix_one (i := 11) (by kernel_rfl) rfl ?_
    intro p11
    go_wp2
    refine ⟨(by with_reducible (repeat (first | exact Gn.refl _ | refine Gn.gr ?_ _ | refine Gn.alloc ?_ _ | refine Gn.drew ?_))), ?_⟩
    refine wpMix_one (i := 12) (by kernel_rfl) rfl ?_
    intro p12
    go_wp2
    refine wpMix_done (by kernel_rfl) ?_
    intro pz
    go_wp2
    generalize (⟨pz.d, p9.os ++ (p10.os ++ (p11.os ++ (p12.os ++ pz.os)))⟩ : Gr) = q at *
    have H8 : ∃ f8 : Nat → Int, Nums (((w5.setCell ⟨hb, wd n, none⟩ (.int .i64 ((cW xs (wd n) : Int) + 1))).setCell ⟨hb, 64, none⟩ (.int .i64 ((xs.length : Int) + 1))).gr q) hb 68 f8 ∧ f8 65 = S ∧ (∀ j, j < 68 → (if j = 65 then S + min n (4611686018427387904 - S) else f8 j) = hf (xs ++ [n]) n (max m n) j) ∧ Kp (fun j => j = hb) w (((w5.setCell ⟨hb, wd n, none⟩ (.int .i64 ((cW xs (wd n) : Int) + 1))).setCell ⟨hb, 64, none⟩ (.int .i64 ((xs.length : Int) + 1))).gr q) := by
      refine ⟨_, (((show Nums w5 hb 68 f from HN.out).set (wd n) _).set 64 _).grown (Gn.gr (Gn.refl _) _), ?_, fun j hj => put_eq xs l m n n (max m n) hn hw HO.out f H66.out H67.out HF5.out _ (by rw [HS.out]) j hj, (((show Kp (fun j => j = hb) w w5 from HK.out).set hb (wd n) _ rfl).set hb 64 _ rfl).gn (Gn.gr (Gn.refl _) _)⟩
      show (if 65 = 64 then _ else if 65 = wd n then _ else f 65) = S
      rw [if_neg (by omega), if_neg n65, HF5.out 65 (by omega), show hf xs l m 65 = sat (sm xs) by simp [hf], HS.out]
    clear HN H66 H67 HF5 HK cr fr c64 c65 f64 f65 n64 n65 m64 m65 hl5
    generalize ((w5.setCell ⟨hb, wd n, none⟩ (.int .i64 ((cW xs (wd n) : Int) + 1))).setCell ⟨hb, 64, none⟩ (.int .i64 ((xs.length : Int) + 1))).gr q = w8 at *
    obtain ⟨f8, hN, h65, hfin, hK⟩ := H8
    have c65 := (hN.2 65 (by omega)).1
    rw [h65] at c65
    have f65 := (hN.2 65 (by omega)).2
    have hl8 := hN.1
    have HN : Hid _ := hN
    have HF : Hid _ := hfin
    have HK : Hid _ := hK
    clear hN hfin hK h65
    refine wp_region_z 14 15 (by kernel_rfl) rfl ?_
    refine wpMix_pick 0 (by kernel_rfl) rfl (by kernel_rfl) (by with_reducible (repeat (first | exact Gn.refl _ | refine Gn.gr ?_ _ | refine Gn.alloc ?_ _ | refine Gn.drew ?_))) (by kernel_rfl) (fun K hK => ?_); go_simp; first | (refine hK _ ?_; clear hK K) | (apply Exists.intro; refine ⟨fun _ => ?_, hK _ ?_⟩; first | (fail); clear hK K)
    refine wpMix_pick 1 (by kernel_rfl) rfl (by kernel_rfl) (by with_reducible (repeat (first | exact Gn.refl _ | refine Gn.gr ?_ _ | refine Gn.alloc ?_ _ | refine Gn.drew ?_))) (by kernel_rfl) (fun K hK => ?_); go_simp; first | (refine hK _ ?_; clear hK K) | (apply Exists.intro; refine ⟨fun _ => ?_, hK _ ?_⟩; first | (fail); clear hK K)
    refine wpMix_pick 2 (by kernel_rfl) rfl (by kernel_rfl) (by with_reducible (repeat (first | exact Gn.refl _ | refine Gn.gr ?_ _ | refine Gn.alloc ?_ _ | refine Gn.drew ?_))) (by kernel_rfl) (fun K hK => ?_); go_simp; first | (refine hK _ ?_; clear hK K) | (apply Exists.intro; refine ⟨fun _ => ?_, hK _ ?_⟩; first | (fail); clear hK K)
    refine wpMix_pick 3 (by kernel_rfl) rfl (by kernel_rfl) (by with_reducible (repeat (first | exact Gn.refl _ | refine Gn.gr ?_ _ | refine Gn.alloc ?_ _ | refine Gn.drew ?_))) (by kernel_rfl) (fun K hK => ?_); go_simp; first | (refine hK _ ?_; clear hK K) | (apply Exists.intro; refine ⟨fun _ => ?_, hK _ ?_⟩; first | (fail); clear hK K)
    refine wpMix_pick 4 (by kernel_rfl) rfl (by kernel_rfl) (by with_reducible (repeat (first | exact Gn.refl _ | refine Gn.gr ?_ _ | refine Gn.alloc ?_ _ | refine Gn.drew ?_))) (by kernel_rfl) (fun K hK => ?_); go_simp; first | (refine hK _ ?_; clear hK K) | (apply Exists.intro; refine ⟨fun _ => ?_, hK _ ?_⟩; first | (fail); clear hK K)
    refine wpMix_pick 5 (by kernel_rfl) rfl (by kernel_rfl) (by with_reducible (repeat (first | exact Gn.refl _ | refine Gn.gr ?_ _ | refine Gn.alloc ?_ _ | refine Gn.drew ?_))) (by kernel_rfl) (fun K hK => ?_); go_simp; first | (refine hK _ ?_; clear hK K) | (apply Exists.intro; refine ⟨fun _ => ?_, hK _ ?_⟩; first | (fail); clear hK K)
    refine wpMix_pick 6 (by kernel_rfl) rfl (by kernel_rfl) (by with_reducible (repeat (first | exact Gn.refl _ | refine Gn.gr ?_ _ | refine Gn.alloc ?_ _ | refine Gn.drew ?_))) (by kernel_rfl) (fun K hK => ?_); go_simp; first | (refine hK _ ?_; clear hK K) | (apply Exists.intro; refine ⟨fun _ => ?_, hK _ ?_⟩; first | (fail); clear hK K)
    refine wpMix_pick 7 (by kernel_rfl) rfl (by kernel_rfl) (by with_reducible (repeat (first | exact Gn.refl _ | refine Gn.gr ?_ _ | refine Gn.alloc ?_ _ | refine Gn.drew ?_))) (by kernel_rfl) (fun K hK => ?_); go_simp; first | (refine hK _ ?_; clear hK K) | (apply Exists.intro; refine ⟨fun _ => ?_, hK _ ?_⟩; first | (fail); clear hK K)
    refine wpMix_pick 8 (by kernel_rfl) rfl (by kernel_rfl) (by with_reducible (repeat (first | exact Gn.refl _ | refine Gn.gr ?_ _ | refine Gn.alloc ?_ _ | refine Gn.drew ?_))) (by kernel_rfl) (fun K hK => ?_); go_simp; first | (refine hK _ ?_; clear hK K) | (apply Exists.intro; refine ⟨fun _ => ?_, hK _ ?_⟩; first | (fail); clear hK K)
    refine wpMix_pick 9 (by kernel_rfl) rfl (by kernel_rfl) (by with_reducible (repeat (first | exact Gn.refl _ | refine Gn.gr ?_ _ | refine Gn.alloc ?_ _ | refine Gn.drew ?_))) (by kernel_rfl) (fun K hK => ?_); go_simp; first | (refine hK _ ?_; clear hK K) | (apply Exists.intro; refine ⟨fun _ => ?_, hK _ ?_⟩; first | (fail); clear hK K)
    refine wpMix_pick 10 (by kernel_rfl) rfl (by kernel_rfl) (by with_reducible (repeat (first | exact Gn.refl _ | refine Gn.gr ?_ _ | refine Gn.alloc ?_ _ | refine Gn.drew ?_))) (by kernel_rfl) (fun K hK => ?_); go_simp; first | (refine hK _ ?_; clear hK K) | (apply Exists.intro; refine ⟨fun _ => ?_, hK _ ?_⟩; first | (fail); clear hK K)
    refine wpMix_pick 11 (by kernel_rfl) rfl (by kernel_rfl) (by with_reducible (repeat (first | exact Gn.refl _ | refine Gn.gr ?_ _ | refine Gn.alloc ?_ _ | refine Gn.drew ?_))) (by kernel_rfl) (fun K hK => ?_); go_simp; first | (refine hK _ ?_; clear hK K) | (apply Exists.intro; refine ⟨fun _ => ?_, hK _ ?_⟩; first | (fail); clear hK K)
    refine wpMix_one (i := 12) (by kernel_rfl) rfl ?_
    intro r12
    go_wp2
    refine ⟨(by with_reducible (repeat (first | exact Gn.refl _ | refine Gn.gr ?_ _ | refine Gn.alloc ?_ _ | refine Gn.drew ?_))), ?_⟩
    refine wpMix_one (i := 13) (by kernel_rfl) rfl ?_
    intro r13
    go_wp2
    refine ⟨(by with_reducible (repeat (first | exact Gn.refl _ | refine Gn.gr ?_ _ | refine Gn.alloc ?_ _ | refine Gn.drew ?_))), ?_⟩
    refine wpMix_one (i := 14) (by kernel_rfl) rfl ?_
    intro r14
    go_wp2
    refine wpMix_done (by kernel_rfl) ?_
    intro rz
    go_wp2
    go_ret
    have hE : Ends (xs ++ [n]) n (max m n) := by
      have e := (show Ends (xs ++ [n]) (if xs.length = 0 ∨ n < l then n else l) (if m < n then n else m) from HE.out)
      rw [HL2.out, show (if m < n then n else m) = max m n by split <;> omega] at e
      exact e
    exact ⟨rfl, ⟨n, max m n, ⟨Nums.grown (Nums.congr (Nums.set (show Nums w8 hb 68 f8 from HN.out) 65 _) HF.out) (by with_reducible (repeat (first | exact Gn.refl _ | refine Gn.gr ?_ _ | refine Gn.alloc ?_ _ | refine Gn.drew ?_))), hE, Ok.snoc HO.out ⟨hn, hn1⟩, by simp; omega⟩⟩, ((show Kp (fun j => j = hb) w w8 from HK.out).set hb 65 _ rfl).gn (by with_reducible (repeat (first | exact Gn.refl _ | refine Gn.gr ?_ _ | refine Gn.alloc ?_ _ | refine Gn.drew ?_)))⟩
  · have hz : ((xs.length : Int) == 0) = false := by simp; intro h; exact h0 (by rw [h]; rfl)
    by_cases hnl : n < l
    · have hl2 : (if xs.length = 0 ∨ n < l then n else l) = n := if_pos (.inr hnl)
      have HL2 : Hid _ := hl2
      clear h0 hl2
      go_enter Try.func6, Try.ntmps6
      go_wp2
      have H5 : ∃ f : Nat → Int, Nums ((w.setCell ⟨hb, 66, none⟩ (.int .i64 n)).setCell ⟨hb, 67, none⟩ (.int .i64 (max m n))) hb 68 f ∧ f 66 = (n) ∧ f 67 = max m n ∧ (∀ j, j < 66 → f j = hf xs l m j) ∧ Kp (fun j => j = hb) w ((w.setCell ⟨hb, 66, none⟩ (.int .i64 n)).setCell ⟨hb, 67, none⟩ (.int .i64 (max m n))) :=
        ⟨_, ((show Hi w hb xs l m from H.out).nums.set 66 n).set 67 (max m n), by simp, by simp, fun j hj => by simp [show ¬ j = 67 by omega, show ¬ j = 66 by omega], ((Kp.refl (fun j => j = hb) w).set hb 66 _ rfl).set hb 67 _ rfl⟩
      generalize ((w.setCell ⟨hb, 66, none⟩ (.int .i64 n)).setCell ⟨hb, 67, none⟩ (.int .i64 (max m n))) = w5 at *
      obtain ⟨f, hN, h66, h67, hf5, hK⟩ := H5
      have cr := (hN.2 (wd n) (by omega)).1
      rw [hf5 (wd n) (by omega), show hf xs l m (wd n) = (cW xs (wd n) : Int) by unfold hf; rw [if_pos (by omega)]] at cr
      have fr := (hN.2 (wd n) (by omega)).2
      have c64 := (hN.2 64 (by omega)).1
      have c65 := (hN.2 65 (by omega)).1
      rw [hf5 64 (by omega), show hf xs l m 64 = (xs.length : Int) by simp [hf]] at c64
      rw [hf5 65 (by omega), show hf xs l m 65 = S by simp [hf]; exact HS.out] at c65
      have f64 := (hN.2 64 (by omega)).2
      have f65 := (hN.2 65 (by omega)).2
      have n64 : ¬ 64 = wd n := by omega
      have n65 : ¬ 65 = wd n := by omega
      have m64 : ¬ wd n = 64 := by omega
      have m65 : ¬ wd n = 65 := by omega
      have hl5 := hN.1
      have hwi : (wd n : Int) < 64 := by omega
      have hwr : IntKind.u64.wrap n = n := by rw [IntKind.wrap_u64]; omega
      have hcl := cW_le xs (wd n)
      have HN : Hid _ := hN
      have H66 : Hid _ := h66
      have H67 : Hid _ := h67
      have HF5 : Hid _ := hf5
      have HK : Hid _ := hK
      clear hN h66 h67 hf5 hK c0 c1 c2 c3 f0 f1 f2 f3 hl
      refine wp_region_z 12 13 (by kernel_rfl) rfl ?_
      refine wpMix_pick 0 (by kernel_rfl) rfl (by kernel_rfl) (by with_reducible (repeat (first | exact Gn.refl _ | refine Gn.gr ?_ _ | refine Gn.alloc ?_ _ | refine Gn.drew ?_))) (by kernel_rfl) (fun K hK => ?_); go_simp; first | (refine hK _ ?_; clear hK K) | (apply Exists.intro; refine ⟨fun _ => ?_, hK _ ?_⟩; first | ((go_at_call 19; exact Calls.in_qg_same (width_any _ _ (by omega)))); clear hK K)
      refine wpMix_pick 1 (by kernel_rfl) rfl (by kernel_rfl) (by with_reducible (repeat (first | exact Gn.refl _ | refine Gn.gr ?_ _ | refine Gn.alloc ?_ _ | refine Gn.drew ?_))) (by kernel_rfl) (fun K hK => ?_); go_simp; first | (refine hK _ ?_; clear hK K) | (apply Exists.intro; refine ⟨fun _ => ?_, hK _ ?_⟩; first | ((go_at_call 19; exact Calls.in_qg_same (width_any _ _ (by omega)))); clear hK K)
      refine wpMix_pick 2 (by kernel_rfl) rfl (by kernel_rfl) (by with_reducible (repeat (first | exact Gn.refl _ | refine Gn.gr ?_ _ | refine Gn.alloc ?_ _ | refine Gn.drew ?_))) (by kernel_rfl) (fun K hK => ?_); go_simp; first | (refine hK _ ?_; clear hK K) | (apply Exists.intro; refine ⟨fun _ => ?_, hK _ ?_⟩; first | ((go_at_call 19; exact Calls.in_qg_same (width_any _ _ (by omega)))); clear hK K)
      refine wpMix_pick 3 (by kernel_rfl) rfl (by kernel_rfl) (by with_reducible (repeat (first | exact Gn.refl _ | refine Gn.gr ?_ _ | refine Gn.alloc ?_ _ | refine Gn.drew ?_))) (by kernel_rfl) (fun K hK => ?_); go_simp; first | (refine hK _ ?_; clear hK K) | (apply Exists.intro; refine ⟨fun _ => ?_, hK _ ?_⟩; first | ((go_at_call 19; exact Calls.in_qg_same (width_any _ _ (by omega)))); clear hK K)
      refine wpMix_pick 4 (by kernel_rfl) rfl (by kernel_rfl) (by with_reducible (repeat (first | exact Gn.refl _ | refine Gn.gr ?_ _ | refine Gn.alloc ?_ _ | refine Gn.drew ?_))) (by kernel_rfl) (fun K hK => ?_); go_simp; first | (refine hK _ ?_; clear hK K) | (apply Exists.intro; refine ⟨fun _ => ?_, hK _ ?_⟩; first | ((go_at_call 19; exact Calls.in_qg_same (width_any _ _ (by omega)))); clear hK K)
      refine wpMix_pick 5 (by kernel_rfl) rfl (by kernel_rfl) (by with_reducible (repeat (first | exact Gn.refl _ | refine Gn.gr ?_ _ | refine Gn.alloc ?_ _ | refine Gn.drew ?_))) (by kernel_rfl) (fun K hK => ?_); go_simp; first | (refine hK _ ?_; clear hK K) | (apply Exists.intro; refine ⟨fun _ => ?_, hK _ ?_⟩; first | ((go_at_call 19; exact Calls.in_qg_same (width_any _ _ (by omega)))); clear hK K)
      refine wpMix_pick 6 (by kernel_rfl) rfl (by kernel_rfl) (by with_reducible (repeat (first | exact Gn.refl _ | refine Gn.gr ?_ _ | refine Gn.alloc ?_ _ | refine Gn.drew ?_))) (by kernel_rfl) (fun K hK => ?_); go_simp; first | (refine hK _ ?_; clear hK K) | (apply Exists.intro; refine ⟨fun _ => ?_, hK _ ?_⟩; first | ((go_at_call 19; exact Calls.in_qg_same (width_any _ _ (by omega)))); clear hK K)
      refine wpMix_pick 7 (by kernel_rfl) rfl (by kernel_rfl) (by with_reducible (repeat (first | exact Gn.refl _ | refine Gn.gr ?_ _ | refine Gn.alloc ?_ _ | refine Gn.drew ?_))) (by kernel_rfl) (fun K hK => ?_); go_simp; first | (refine hK _ ?_; clear hK K) | (apply Exists.intro; refine ⟨fun _ => ?_, hK _ ?_⟩; first | ((go_at_call 19; exact Calls.in_qg_same (width_any _ _ (by omega)))); clear hK K)
      refine wpMix_pick 8 (by kernel_rfl) rfl (by kernel_rfl) (by with_reducible (repeat (first | exact Gn.refl _ | refine Gn.gr ?_ _ | refine Gn.alloc ?_ _ | refine Gn.drew ?_))) (by kernel_rfl) (fun K hK => ?_); go_simp; first | (refine hK _ ?_; clear hK K) | (apply Exists.intro; refine ⟨fun _ => ?_, hK _ ?_⟩; first | ((go_at_call 19; exact Calls.in_qg_same (width_any _ _ (by omega)))); clear hK K)
      refine wpMix_one (i := 9) (by kernel_rfl) rfl ?_
      intro p9
      go_wp2
      refine ⟨(by with_reducible (repeat (first | exact Gn.refl _ | refine Gn.gr ?_ _ | refine Gn.alloc ?_ _ | refine Gn.drew ?_))), ?_⟩
      refine wpMix_one (i := 10) (by kernel_rfl) rfl ?_
      intro p10
      go_wp2
      refine ⟨(by with_reducible (repeat (first | exact Gn.refl _ | refine Gn.gr ?_ _ | refine Gn.alloc ?_ _ | refine Gn.drew ?_))), ?_⟩
      refine wpMix_one (i := 11) (by kernel_rfl) rfl ?_
      intro p11
      go_wp2
      refine ⟨(by with_reducible (repeat (first | exact Gn.refl _ | refine Gn.gr ?_ _ | refine Gn.alloc ?_ _ | refine Gn.drew ?_))), ?_⟩
      refine wpMix_one (i := 12) (by kernel_rfl) rfl ?_
      intro p12
      go_wp2
      refine wpMix_done (by kernel_rfl) ?_
      intro pz
      go_wp2
      generalize (⟨pz.d, p9.os ++ (p10.os ++ (p11.os ++ (p12.os ++ pz.os)))⟩ : Gr) = q at *
      have H8 : ∃ f8 : Nat → Int, Nums (((w5.setCell ⟨hb, wd n, none⟩ (.int .i64 ((cW xs (wd n) : Int) + 1))).setCell ⟨hb, 64, none⟩ (.int .i64 ((xs.length : Int) + 1))).gr q) hb 68 f8 ∧ f8 65 = S ∧ (∀ j, j < 68 → (if j = 65 then S + min n (4611686018427387904 - S) else f8 j) = hf (xs ++ [n]) n (max m n) j) ∧ Kp (fun j => j = hb) w (((w5.setCell ⟨hb, wd n, none⟩ (.int .i64 ((cW xs (wd n) : Int) + 1))).setCell ⟨hb, 64, none⟩ (.int .i64 ((xs.length : Int) + 1))).gr q) := by
        refine ⟨_, (((show Nums w5 hb 68 f from HN.out).set (wd n) _).set 64 _).grown (Gn.gr (Gn.refl _) _), ?_, fun j hj => put_eq xs l m n n (max m n) hn hw HO.out f H66.out H67.out HF5.out _ (by rw [HS.out]) j hj, (((show Kp (fun j => j = hb) w w5 from HK.out).set hb (wd n) _ rfl).set hb 64 _ rfl).gn (Gn.gr (Gn.refl _) _)⟩
        show (if 65 = 64 then _ else if 65 = wd n then _ else f 65) = S
        rw [if_neg (by omega), if_neg n65, HF5.out 65 (by omega), show hf xs l m 65 = sat (sm xs) by simp [hf], HS.out]
      clear HN H66 H67 HF5 HK cr fr c64 c65 f64 f65 n64 n65 m64 m65 hl5
      generalize ((w5.setCell ⟨hb, wd n, none⟩ (.int .i64 ((cW xs (wd n) : Int) + 1))).setCell ⟨hb, 64, none⟩ (.int .i64 ((xs.length : Int) + 1))).gr q = w8 at *
      obtain ⟨f8, hN, h65, hfin, hK⟩ := H8
      have c65 := (hN.2 65 (by omega)).1
      rw [h65] at c65
      have f65 := (hN.2 65 (by omega)).2
      have hl8 := hN.1
      have HN : Hid _ := hN
      have HF : Hid _ := hfin
      have HK : Hid _ := hK
      clear hN hfin hK h65
      refine wp_region_z 14 15 (by kernel_rfl) rfl ?_
      refine wpMix_pick 0 (by kernel_rfl) rfl (by kernel_rfl) (by with_reducible (repeat (first | exact Gn.refl _ | refine Gn.gr ?_ _ | refine Gn.alloc ?_ _ | refine Gn.drew ?_))) (by kernel_rfl) (fun K hK => ?_); go_simp; first | (refine hK _ ?_; clear hK K) | (apply Exists.intro; refine ⟨fun _ => ?_, hK _ ?_⟩; first | (fail); clear hK K)
      refine wpMix_pick 1 (by kernel_rfl) rfl (by kernel_rfl) (by with_reducible (repeat (first | exact Gn.refl _ | refine Gn.gr ?_ _ | refine Gn.alloc ?_ _ | refine Gn.drew ?_))) (by kernel_rfl) (fun K hK => ?_); go_simp; first | (refine hK _ ?_; clear hK K) | (apply Exists.intro; refine ⟨fun _ => ?_, hK _ ?_⟩; first | (fail); clear hK K)
      refine wpMix_pick 2 (by kernel_rfl) rfl (by kernel_rfl) (by with_reducible (repeat (first | exact Gn.refl _ | refine Gn.gr ?_ _ | refine Gn.alloc ?_ _ | refine Gn.drew ?_))) (by kernel_rfl) (fun K hK => ?_); go_simp; first | (refine hK _ ?_; clear hK K) | (apply Exists.intro; refine ⟨fun _ => ?_, hK _ ?_⟩; first | (fail); clear hK K)
      refine wpMix_pick 3 (by kernel_rfl) rfl (by kernel_rfl) (by with_reducible (repeat (first | exact Gn.refl _ | refine Gn.gr ?_ _ | refine Gn.alloc ?_ _ | refine Gn.drew ?_))) (by kernel_rfl) (fun K hK => ?_); go_simp; first | (refine hK _ ?_; clear hK K) | (apply Exists.intro; refine ⟨fun _ => ?_, hK _ ?_⟩; first | (fail); clear hK K)
      refine wpMix_pick 4 (by kernel_rfl) rfl (by kernel_rfl) (by with_reducible (repeat (first | exact Gn.refl _ | refine Gn.gr ?_ _ | refine Gn.alloc ?_ _ | refine Gn.drew ?_))) (by kernel_rfl) (fun K hK => ?_); go_simp; first | (refine hK _ ?_; clear hK K) | (apply Exists.intro; refine ⟨fun _ => ?_, hK _ ?_⟩; first | (fail); clear hK K)
      refine wpMix_pick 5 (by kernel_rfl) rfl (by kernel_rfl) (by with_reducible (repeat (first | exact Gn.refl _ | refine Gn.gr ?_ _ | refine Gn.alloc ?_ _ | refine Gn.drew ?_))) (by kernel_rfl) (fun K hK => ?_); go_simp; first | (refine hK _ ?_; clear hK K) | (apply Exists.intro; refine ⟨fun _ => ?_, hK _ ?_⟩; first | (fail); clear hK K)
      refine wpMix_pick 6 (by kernel_rfl) rfl (by kernel_rfl) (by with_reducible (repeat (first | exact Gn.refl _ | refine Gn.gr ?_ _ | refine Gn.alloc ?_ _ | refine Gn.drew ?_))) (by kernel_rfl) (fun K hK => ?_); go_simp; first | (refine hK _ ?_; clear hK K) | (apply Exists.intro; refine ⟨fun _ => ?_, hK _ ?_⟩; first | (fail); clear hK K)
      refine wpMix_pick 7 (by kernel_rfl) rfl (by kernel_rfl) (by with_reducible (repeat (first | exact Gn.refl _ | refine Gn.gr ?_ _ | refine Gn.alloc ?_ _ | refine Gn.drew ?_))) (by kernel_rfl) (fun K hK => ?_); go_simp; first | (refine hK _ ?_; clear hK K) | (apply Exists.intro; refine ⟨fun _ => ?_, hK _ ?_⟩; first | (fail); clear hK K)
      refine wpMix_pick 8 (by kernel_rfl) rfl (by kernel_rfl) (by with_reducible (repeat (first | exact Gn.refl _ | refine Gn.gr ?_ _ | refine Gn.alloc ?_ _ | refine Gn.drew ?_))) (by kernel_rfl) (fun K hK => ?_); go_simp; first | (refine hK _ ?_; clear hK K) | (apply Exists.intro; refine ⟨fun _ => ?_, hK _ ?_⟩; first | (fail); clear hK K)
      refine wpMix_pick 9 (by kernel_rfl) rfl (by kernel_rfl) (by with_reducible (repeat (first | exact Gn.refl _ | refine Gn.gr ?_ _ | refine Gn.alloc ?_ _ | refine Gn.drew ?_))) (by kernel_rfl) (fun K hK => ?_); go_simp; first | (refine hK _ ?_; clear hK K) | (apply Exists.intro; refine ⟨fun _ => ?_, hK _ ?_⟩; first | (fail); clear hK K)
      refine wpMix_pick 10 (by kernel_rfl) rfl (by kernel_rfl) (by with_reducible (repeat (first | exact Gn.refl _ | refine Gn.gr ?_ _ | refine Gn.alloc ?_ _ | refine Gn.drew ?_))) (by kernel_rfl) (fun K hK => ?_); go_simp; first | (refine hK _ ?_; clear hK K) | (apply Exists.intro; refine ⟨fun _ => ?_, hK _ ?_⟩; first | (fail); clear hK K)
      refine wpMix_pick 11 (by kernel_rfl) rfl (by kernel_rfl) (by with_reducible (repeat (first | exact Gn.refl _ | refine Gn.gr ?_ _ | refine Gn.alloc ?_ _ | refine Gn.drew ?_))) (by kernel_rfl) (fun K hK => ?_); go_simp; first | (refine hK _ ?_; clear hK K) | (apply Exists.intro; refine ⟨fun _ => ?_, hK _ ?_⟩; first | (fail); clear hK K)
      refine wpMix_one (i := 12) (by kernel_rfl) rfl ?_
      intro r12
      go_wp2
      refine ⟨(by with_reducible (repeat (first | exact Gn.refl _ | refine Gn.gr ?_ _ | refine Gn.alloc ?_ _ | refine Gn.drew ?_))), ?_⟩
      refine wpMix_one (i := 13) (by kernel_rfl) rfl ?_
      intro r13
      go_wp2
      refine ⟨(by with_reducible (repeat (first | exact Gn.refl _ | refine Gn.gr ?_ _ | refine Gn.alloc ?_ _ | refine Gn.drew ?_))), ?_⟩
      refine wpMix_one (i := 14) (by kernel_rfl) rfl ?_
      intro r14
      go_wp2
      refine wpMix_done (by kernel_rfl) ?_
      intro rz
      go_wp2
      go_ret
      have hE : Ends (xs ++ [n]) n (max m n) := by
        have e := (show Ends (xs ++ [n]) (if xs.length = 0 ∨ n < l then n else l) (if m < n then n else m) from HE.out)
        rw [HL2.out, show (if m < n then n else m) = max m n by split <;> omega] at e
        exact e
      exact ⟨rfl, ⟨n, max m n, ⟨Nums.grown (Nums.congr (Nums.set (show Nums w8 hb 68 f8 from HN.out) 65 _) HF.out) (by with_reducible (repeat (first | exact Gn.refl _ | refine Gn.gr ?_ _ | refine Gn.alloc ?_ _ | refine Gn.drew ?_))), hE, Ok.snoc HO.out ⟨hn, hn1⟩, by simp; omega⟩⟩, ((show Kp (fun j => j = hb) w w8 from HK.out).set hb 65 _ rfl).gn (by with_reducible (repeat (first | exact Gn.refl _ | refine Gn.gr ?_ _ | refine Gn.alloc ?_ _ | refine Gn.drew ?_)))⟩
    · have hl2 : (if xs.length = 0 ∨ n < l then n else l) = l := if_neg (by omega)
      have HL2 : Hid _ := hl2
      clear h0 hl2
      go_enter Try.func6, Try.ntmps6
      go_wp2
      have H5 : ∃ f : Nat → Int, Nums (w.setCell ⟨hb, 67, none⟩ (.int .i64 (max m n))) hb 68 f ∧ f 66 = (l) ∧ f 67 = max m n ∧ (∀ j, j < 66 → f j = hf xs l m j) ∧ Kp (fun j => j = hb) w (w.setCell ⟨hb, 67, none⟩ (.int .i64 (max m n))) :=
        ⟨_, (show Hi w hb xs l m from H.out).nums.set 67 (max m n), by simp [hf], by simp, fun j hj => by simp [show ¬ j = 67 by omega, show ¬ j = 66 by omega], (Kp.refl (fun j => j = hb) w).set hb 67 _ rfl⟩
      generalize (w.setCell ⟨hb, 67, none⟩ (.int .i64 (max m n))) = w5 at *
      obtain ⟨f, hN, h66, h67, hf5, hK⟩ := H5
      have cr := (hN.2 (wd n) (by omega)).1
      rw [hf5 (wd n) (by omega), show hf xs l m (wd n) = (cW xs (wd n) : Int) by unfold hf; rw [if_pos (by omega)]] at cr
      have fr := (hN.2 (wd n) (by omega)).2
      have c64 := (hN.2 64 (by omega)).1
      have c65 := (hN.2 65 (by omega)).1
      rw [hf5 64 (by omega), show hf xs l m 64 = (xs.length : Int) by simp [hf]] at c64
      rw [hf5 65 (by omega), show hf xs l m 65 = S by simp [hf]; exact HS.out] at c65
      have f64 := (hN.2 64 (by omega)).2
      have f65 := (hN.2 65 (by omega)).2
      have n64 : ¬ 64 = wd n := by omega
      have n65 : ¬ 65 = wd n := by omega
      have m64 : ¬ wd n = 64 := by omega
      have m65 : ¬ wd n = 65 := by omega
      have hl5 := hN.1
      have hwi : (wd n : Int) < 64 := by omega
      have hwr : IntKind.u64.wrap n = n := by rw [IntKind.wrap_u64]; omega
      have hcl := cW_le xs (wd n)
      have HN : Hid _ := hN
      have H66 : Hid _ := h66
      have H67 : Hid _ := h67
      have HF5 : Hid _ := hf5
      have HK : Hid _ := hK
      clear hN h66 h67 hf5 hK c0 c1 c2 c3 f0 f1 f2 f3 hl
      refine wp_region_z 12 13 (by kernel_rfl) rfl ?_
      refine wpMix_pick 0 (by kernel_rfl) rfl (by kernel_rfl) (by with_reducible (repeat (first | exact Gn.refl _ | refine Gn.gr ?_ _ | refine Gn.alloc ?_ _ | refine Gn.drew ?_))) (by kernel_rfl) (fun K hK => ?_); go_simp; first | (refine hK _ ?_; clear hK K) | (apply Exists.intro; refine ⟨fun _ => ?_, hK _ ?_⟩; first | ((go_at_call 19; exact Calls.in_qg_same (width_any _ _ (by omega)))); clear hK K)
      refine wpMix_pick 1 (by kernel_rfl) rfl (by kernel_rfl) (by with_reducible (repeat (first | exact Gn.refl _ | refine Gn.gr ?_ _ | refine Gn.alloc ?_ _ | refine Gn.drew ?_))) (by kernel_rfl) (fun K hK => ?_); go_simp; first | (refine hK _ ?_; clear hK K) | (apply Exists.intro; refine ⟨fun _ => ?_, hK _ ?_⟩; first | ((go_at_call 19; exact Calls.in_qg_same (width_any _ _ (by omega)))); clear hK K)
      refine wpMix_pick 2 (by kernel_rfl) rfl (by kernel_rfl) (by with_reducible (repeat (first | exact Gn.refl _ | refine Gn.gr ?_ _ | refine Gn.alloc ?_ _ | refine Gn.drew ?_))) (by kernel_rfl) (fun K hK => ?_); go_simp; first | (refine hK _ ?_; clear hK K) | (apply Exists.intro; refine ⟨fun _ => ?_, hK _ ?_⟩; first | ((go_at_call 19; exact Calls.in_qg_same (width_any _ _ (by omega)))); clear hK K)
      refine wpMix_pick 3 (by kernel_rfl) rfl (by kernel_rfl) (by with_reducible (repeat (first | exact Gn.refl _ | refine Gn.gr ?_ _ | refine Gn.alloc ?_ _ | refine Gn.drew ?_))) (by kernel_rfl) (fun K hK => ?_); go_simp; first | (refine hK _ ?_; clear hK K) | (apply Exists.intro; refine ⟨fun _ => ?_, hK _ ?_⟩; first | ((go_at_call 19; exact Calls.in_qg_same (width_any _ _ (by omega)))); clear hK K)
      refine wpMix_pick 4 (by kernel_rfl) rfl (by kernel_rfl) (by with_reducible (repeat (first | exact Gn.refl _ | refine Gn.gr ?_ _ | refine Gn.alloc ?_ _ | refine Gn.drew ?_))) (by kernel_rfl) (fun K hK => ?_); go_simp; first | (refine hK _ ?_; clear hK K) | (apply Exists.intro; refine ⟨fun _ => ?_, hK _ ?_⟩; first | ((go_at_call 19; exact Calls.in_qg_same (width_any _ _ (by omega)))); clear hK K)
      refine wpMix_pick 5 (by kernel_rfl) rfl (by kernel_rfl) (by with_reducible (repeat (first | exact Gn.refl _ | refine Gn.gr ?_ _ | refine Gn.alloc ?_ _ | refine Gn.drew ?_))) (by kernel_rfl) (fun K hK => ?_); go_simp; first | (refine hK _ ?_; clear hK K) | (apply Exists.intro; refine ⟨fun _ => ?_, hK _ ?_⟩; first | ((go_at_call 19; exact Calls.in_qg_same (width_any _ _ (by omega)))); clear hK K)
      refine wpMix_pick 6 (by kernel_rfl) rfl (by kernel_rfl) (by with_reducible (repeat (first | exact Gn.refl _ | refine Gn.gr ?_ _ | refine Gn.alloc ?_ _ | refine Gn.drew ?_))) (by kernel_rfl) (fun K hK => ?_); go_simp; first | (refine hK _ ?_; clear hK K) | (apply Exists.intro; refine ⟨fun _ => ?_, hK _ ?_⟩; first | ((go_at_call 19; exact Calls.in_qg_same (width_any _ _ (by omega)))); clear hK K)
      refine wpMix_pick 7 (by kernel_rfl) rfl (by kernel_rfl) (by with_reducible (repeat (first | exact Gn.refl _ | refine Gn.gr ?_ _ | refine Gn.alloc ?_ _ | refine Gn.drew ?_))) (by kernel_rfl) (fun K hK => ?_); go_simp; first | (refine hK _ ?_; clear hK K) | (apply Exists.intro; refine ⟨fun _ => ?_, hK _ ?_⟩; first | ((go_at_call 19; exact Calls.in_qg_same (width_any _ _ (by omega)))); clear hK K)
      refine wpMix_pick 8 (by kernel_rfl) rfl (by kernel_rfl) (by with_reducible (repeat (first | exact Gn.refl _ | refine Gn.gr ?_ _ | refine Gn.alloc ?_ _ | refine Gn.drew ?_))) (by kernel_rfl) (fun K hK => ?_); go_simp; first | (refine hK _ ?_; clear hK K) | (apply Exists.intro; refine ⟨fun _ => ?_, hK _ ?_⟩; first | ((go_at_call 19; exact Calls.in_qg_same (width_any _ _ (by omega)))); clear hK K)
      refine wpMix_one (i := 9) (by kernel_rfl) rfl ?_
      intro p9
      go_wp2
      refine ⟨(by with_reducible (repeat (first | exact Gn.refl _ | refine Gn.gr ?_ _ | refine Gn.alloc ?_ _ | refine Gn.drew ?_))), ?_⟩
      refine wpMix_one (i := 10) (by kernel_rfl) rfl ?_
      intro p10
      go_wp2
      refine ⟨(by with_reducible (repeat (first | exact Gn.refl _ | refine Gn.gr ?_ _ | refine Gn.alloc ?_ _ | refine Gn.drew ?_))), ?_⟩
      refine wpMix_one (i := 11) (by kernel_rfl) rfl ?_
      intro p11
      go_wp2
      refine ⟨(by with_reducible (repeat (first | exact Gn.refl _ | refine Gn.gr ?_ _ | refine Gn.alloc ?_ _ | refine Gn.drew ?_))), ?_⟩
      refine wpMix_one (i := 12) (by kernel_rfl) rfl ?_
      intro p12
      go_wp2
      refine wpMix_done (by kernel_rfl) ?_
      intro pz
      go_wp2
      generalize (⟨pz.d, p9.os ++ (p10.os ++ (p11.os ++ (p12.os ++ pz.os)))⟩ : Gr) = q at *
      have H8 : ∃ f8 : Nat → Int, Nums (((w5.setCell ⟨hb, wd n, none⟩ (.int .i64 ((cW xs (wd n) : Int) + 1))).setCell ⟨hb, 64, none⟩ (.int .i64 ((xs.length : Int) + 1))).gr q) hb 68 f8 ∧ f8 65 = S ∧ (∀ j, j < 68 → (if j = 65 then S + min n (4611686018427387904 - S) else f8 j) = hf (xs ++ [n]) l (max m n) j) ∧ Kp (fun j => j = hb) w (((w5.setCell ⟨hb, wd n, none⟩ (.int .i64 ((cW xs (wd n) : Int) + 1))).setCell ⟨hb, 64, none⟩ (.int .i64 ((xs.length : Int) + 1))).gr q) := by
        refine ⟨_, (((show Nums w5 hb 68 f from HN.out).set (wd n) _).set 64 _).grown (Gn.gr (Gn.refl _) _), ?_, fun j hj => put_eq xs l m n l (max m n) hn hw HO.out f H66.out H67.out HF5.out _ (by rw [HS.out]) j hj, (((show Kp (fun j => j = hb) w w5 from HK.out).set hb (wd n) _ rfl).set hb 64 _ rfl).gn (Gn.gr (Gn.refl _) _)⟩
        show (if 65 = 64 then _ else if 65 = wd n then _ else f 65) = S
        rw [if_neg (by omega), if_neg n65, HF5.out 65 (by omega), show hf xs l m 65 = sat (sm xs) by simp [hf], HS.out]
      clear HN H66 H67 HF5 HK cr fr c64 c65 f64 f65 n64 n65 m64 m65 hl5
      generalize ((w5.setCell ⟨hb, wd n, none⟩ (.int .i64 ((cW xs (wd n) : Int) + 1))).setCell ⟨hb, 64, none⟩ (.int .i64 ((xs.length : Int) + 1))).gr q = w8 at *
      obtain ⟨f8, hN, h65, hfin, hK⟩ := H8
      have c65 := (hN.2 65 (by omega)).1
      rw [h65] at c65
      have f65 := (hN.2 65 (by omega)).2
      have hl8 := hN.1
      have HN : Hid _ := hN
      have HF : Hid _ := hfin
      have HK : Hid _ := hK
      clear hN hfin hK h65
      refine wp_region_z 14 15 (by kernel_rfl) rfl ?_
      refine wpMix_pick 0 (by kernel_rfl) rfl (by kernel_rfl) (by with_reducible (repeat (first | exact Gn.refl _ | refine Gn.gr ?_ _ | refine Gn.alloc ?_ _ | refine Gn.drew ?_))) (by kernel_rfl) (fun K hK => ?_); go_simp; first | (refine hK _ ?_; clear hK K) | (apply Exists.intro; refine ⟨fun _ => ?_, hK _ ?_⟩; first | (fail); clear hK K)
      refine wpMix_pick 1 (by kernel_rfl) rfl (by kernel_rfl) (by with_reducible (repeat (first | exact Gn.refl _ | refine Gn.gr ?_ _ | refine Gn.alloc ?_ _ | refine Gn.drew ?_))) (by kernel_rfl) (fun K hK => ?_); go_simp; first | (refine hK _ ?_; clear hK K) | (apply Exists.intro; refine ⟨fun _ => ?_, hK _ ?_⟩; first | (fail); clear hK K)
      refine wpMix_pick 2 (by kernel_rfl) rfl (by kernel_rfl) (by with_reducible (repeat (first | exact Gn.refl _ | refine Gn.gr ?_ _ | refine Gn.alloc ?_ _ | refine Gn.drew ?_))) (by kernel_rfl) (fun K hK => ?_); go_simp; first | (refine hK _ ?_; clear hK K) | (apply Exists.intro; refine ⟨fun _ => ?_, hK _ ?_⟩; first | (fail); clear hK K)
      refine wpMix_pick 3 (by kernel_rfl) rfl (by kernel_rfl) (by with_reducible (repeat (first | exact Gn.refl _ | refine Gn.gr ?_ _ | refine Gn.alloc ?_ _ | refine Gn.drew ?_))) (by kernel_rfl) (fun K hK => ?_); go_simp; first | (refine hK _ ?_; clear hK K) | (apply Exists.intro; refine ⟨fun _ => ?_, hK _ ?_⟩; first | (fail); clear hK K)
      refine wpMix_pick 4 (by kernel_rfl) rfl (by kernel_rfl) (by with_reducible (repeat (first | exact Gn.refl _ | refine Gn.gr ?_ _ | refine Gn.alloc ?_ _ | refine Gn.drew ?_))) (by kernel_rfl) (fun K hK => ?_); go_simp; first | (refine hK _ ?_; clear hK K) | (apply Exists.intro; refine ⟨fun _ => ?_, hK _ ?_⟩; first | (fail); clear hK K)
      refine wpMix_pick 5 (by kernel_rfl) rfl (by kernel_rfl) (by with_reducible (repeat (first | exact Gn.refl _ | refine Gn.gr ?_ _ | refine Gn.alloc ?_ _ | refine Gn.drew ?_))) (by kernel_rfl) (fun K hK => ?_); go_simp; first | (refine hK _ ?_; clear hK K) | (apply Exists.intro; refine ⟨fun _ => ?_, hK _ ?_⟩; first | (fail); clear hK K)
      refine wpMix_pick 6 (by kernel_rfl) rfl (by kernel_rfl) (by with_reducible (repeat (first | exact Gn.refl _ | refine Gn.gr ?_ _ | refine Gn.alloc ?_ _ | refine Gn.drew ?_))) (by kernel_rfl) (fun K hK => ?_); go_simp; first | (refine hK _ ?_; clear hK K) | (apply Exists.intro; refine ⟨fun _ => ?_, hK _ ?_⟩; first | (fail); clear hK K)
      refine wpMix_pick 7 (by kernel_rfl) rfl (by kernel_rfl) (by with_reducible (repeat (first | exact Gn.refl _ | refine Gn.gr ?_ _ | refine Gn.alloc ?_ _ | refine Gn.drew ?_))) (by kernel_rfl) (fun K hK => ?_); go_simp; first | (refine hK _ ?_; clear hK K) | (apply Exists.intro; refine ⟨fun _ => ?_, hK _ ?_⟩; first | (fail); clear hK K)
      refine wpMix_pick 8 (by kernel_rfl) rfl (by kernel_rfl) (by with_reducible (repeat (first | exact Gn.refl _ | refine Gn.gr ?_ _ | refine Gn.alloc ?_ _ | refine Gn.drew ?_))) (by kernel_rfl) (fun K hK => ?_); go_simp; first | (refine hK _ ?_; clear hK K) | (apply Exists.intro; refine ⟨fun _ => ?_, hK _ ?_⟩; first | (fail); clear hK K)
      refine wpMix_pick 9 (by kernel_rfl) rfl (by kernel_rfl) (by with_reducible (repeat (first | exact Gn.refl _ | refine Gn.gr ?_ _ | refine Gn.alloc ?_ _ | refine Gn.drew ?_))) (by kernel_rfl) (fun K hK => ?_); go_simp; first | (refine hK _ ?_; clear hK K) | (apply Exists.intro; refine ⟨fun _ => ?_, hK _ ?_⟩; first | (fail); clear hK K)
      refine wpMix_pick 10 (by kernel_rfl) rfl (by kernel_rfl) (by with_reducible (repeat (first | exact Gn.refl _ | refine Gn.gr ?_ _ | refine Gn.alloc ?_ _ | refine Gn.drew ?_))) (by kernel_rfl) (fun K hK => ?_); go_simp; first | (refine hK _ ?_; clear hK K) | (apply Exists.intro; refine ⟨fun _ => ?_, hK _ ?_⟩; first | (fail); clear hK K)
      refine wpMix_pick 11 (by kernel_rfl) rfl (by kernel_rfl) (by with_reducible (repeat (first | exact Gn.refl _ | refine Gn.gr ?_ _ | refine Gn.alloc ?_ _ | refine Gn.drew ?_))) (by kernel_rfl) (fun K hK => ?_); go_simp; first | (refine hK _ ?_; clear hK K) | (apply Exists.intro; refine ⟨fun _ => ?_, hK _ ?_⟩; first | (fail); clear hK K)
      refine wpMix_one (i := 12) (by kernel_rfl) rfl ?_
      intro r12
      go_wp2
      refine ⟨(by with_reducible (repeat (first | exact Gn.refl _ | refine Gn.gr ?_ _ | refine Gn.alloc ?_ _ | refine Gn.drew ?_))), ?_⟩
      refine wpMix_one (i := 13) (by kernel_rfl) rfl ?_
      intro r13
      go_wp2
      refine ⟨(by with_reducible (repeat (first | exact Gn.refl _ | refine Gn.gr ?_ _ | refine Gn.alloc ?_ _ | refine Gn.drew ?_))), ?_⟩
      refine wpMix_one (i := 14) (by kernel_rfl) rfl ?_
      intro r14
      go_wp2
      refine wpMix_done (by kernel_rfl) ?_
      intro rz
      go_wp2
      go_ret
      have hE : Ends (xs ++ [n]) l (max m n) := by
        have e := (show Ends (xs ++ [n]) (if xs.length = 0 ∨ n < l then n else l) (if m < n then n else m) from HE.out)
        rw [HL2.out, show (if m < n then n else m) = max m n by split <;> omega] at e
        exact e
      exact ⟨rfl, ⟨l, max m n, ⟨Nums.grown (Nums.congr (Nums.set (show Nums w8 hb 68 f8 from HN.out) 65 _) HF.out) (by with_reducible (repeat (first | exact Gn.refl _ | refine Gn.gr ?_ _ | refine Gn.alloc ?_ _ | refine Gn.drew ?_))), hE, Ok.snoc HO.out ⟨hn, hn1⟩, by simp; omega⟩⟩, ((show Kp (fun j => j = hb) w w8 from HK.out).set hb 65 _ rfl).gn (by with_reducible (repeat (first | exact Gn.refl _ | refine Gn.gr ?_ _ | refine Gn.alloc ?_ _ | refine Gn.drew ?_)))⟩

end Go.Proofs.Ytggfjpfjpinhoaa
