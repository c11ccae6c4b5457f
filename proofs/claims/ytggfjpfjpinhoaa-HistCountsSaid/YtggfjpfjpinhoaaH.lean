/- The reference's sums, rows, ranks and parts of a list of numbers. -/
import Derived.Test.YtggfjpfjpinhoaaG
namespace Go.Proofs.Ytggfjpfjpinhoaa
open Go.RowKit

theorem sm_take_le {s : List Int} (h : Ok s) (k : Nat) : sm (s.take k) ≤ sm s ∧ 0 ≤ sm (s.take k) := by
  have e := sm_append (s.take k) (s.drop k)
  rw [List.take_append_drop] at e
  have h1 := sm_nonneg (xs := s.drop k) (fun x hx => h x (List.mem_of_mem_drop hx))
  have h2 := sm_nonneg (xs := s.take k) (fun x hx => h x (List.mem_of_mem_take hx))
  omega
theorem shl_lo : ∀ k : Fin 63, wrap64 (2 ^ k.val) = loK (k.val + 1) := by decide +kernel
section
variable (w : World)
set_option maxHeartbeats 1000000 in
theorem rsum_any (v : Value) (s : List Int) (hv : IA w v s) (hok : Ok s) (hlen : s.length ≤ 1000) : Calls Try.prog 14 #[v] w fun e w' => e = .returned (.int .i64 (sat (sm s))) ∧ w = w' := by
  obtain ⟨o, c, rfl⟩ := hv.shape
  have HV : Hid _ := hv
  have HOK : Hid _ := hok
  clear hv hok
  go_enter Try.func14, Try.ntmps14
  go_wp2
  go_loop [3, 4] (fun u i => ∃ k : Nat, k ≤ s.length ∧ i = .int .i64 k ∧ u = .int .i64 (sm (s.take k)) ∧ sm (s.take k) ≤ 4611686018427387904) (fun _ i => s.length - (intOf i).toNat)
  case atStart => exact ⟨0, by omega, rfl, rfl, by simp [sm]⟩
  case round =>
    obtain ⟨k, hk, rfl, rfl, hle⟩ := hrel
    obtain ⟨t1, t2⟩ := sm_take_le HOK.out k
    by_cases hlt : k < s.length
    · obtain ⟨b, off, rfl, hbl, hr⟩ := IA.row HV.out (by omega)
      have cr := hr k hlt
      have hki : (k : Int) < (s.length : Int) := by omega
      have hx := HOK.out _ (ia_mem hlt)
      have e1 : Hid (sm (s.take (k + 1)) = sm (s.take k) + ia s k) := by show sm (s.take (k + 1)) = _; rw [take_ia hlt, sm_snoc]
      have t3 : Hid _ := (sm_take_le HOK.out (k + 1)).1
      obtain ⟨q, hq⟩ : ∃ q, sm (s.take k) = q := ⟨_, rfl⟩
      have HQ : Hid _ := hq
      rw [hq] at hle t1 t2 ⊢
      clear hr hq
      by_cases hb : 4611686018427387904 - q < ia s k
      · go_wp2
        go_ret
        refine ⟨int_ret ?_, rfl⟩
        have := t3.out
        rw [e1.out, HQ.out] at this
        unfold sat; omega
      · go_wp2
        go_round
        case rel => exact ⟨k + 1, by omega, by go_num, by rw [e1.out, HQ.out], by rw [e1.out, HQ.out]; omega⟩
        case measure => simp [intOf]; omega
    · obtain rfl : k = s.length := by omega
      rw [List.take_length] at *
      go_wp2
      go_ret
      exact ⟨int_ret (by unfold sat; omega), rfl⟩
def rowR (s : List Int) (k : Int) : Int := if 0 ≤ k then (cW s k.toNat : Int) else 0
theorem rowR_snoc (s : List Int) (x k : Int) : rowR (s ++ [x]) k = rowR s k + if (wd x : Int) = k then 1 else 0 := by
  unfold rowR
  by_cases h : 0 ≤ k
  · rw [if_pos h, if_pos h, cW_snoc]
    by_cases e : (wd x : Int) = k
    · rw [if_pos (by omega), if_pos e]; omega
    · rw [if_neg (by omega), if_neg e]; omega
  · rw [if_neg h, if_neg h, if_neg (by omega)]; omega
theorem rowR_bd (s : List Int) (k : Int) : 0 ≤ rowR s k ∧ rowR s k ≤ s.length := by
  unfold rowR
  have := cW_le s k.toNat
  split <;> omega
theorem rowR_eq {s : List Int} (h : Ok s) (k : Int) : rowR s k = rowI s k := by
  unfold rowR rowI
  by_cases h0 : 0 ≤ k
  · by_cases h1 : k < 64
    · rw [if_pos h0, if_pos ⟨h0, h1⟩]
    · rw [if_pos h0, if_neg (by omega), cW_none h (by omega)]; rfl
  · rw [if_neg h0, if_neg (by omega)]
set_option maxHeartbeats 1000000 in
theorem rrow_any (v : Value) (s : List Int) (k0 : Int) (hv : IA w v s) (hok : Ok s) (hlen : s.length ≤ 1000) : Calls Try.prog 16 #[v, .int .i64 k0] w fun e w' => e = .returned (.int .i64 (rowR s k0)) ∧ w = w' := by
  obtain ⟨o, c, rfl⟩ := hv.shape
  have HV : Hid _ := hv
  have HOK : Hid _ := hok
  clear hv hok
  go_enter Try.func16, Try.ntmps16
  go_wp2
  go_loop [5, 6] (fun u i => ∃ k : Nat, k ≤ s.length ∧ i = .int .i64 k ∧ u = .int .i64 (rowR (s.take k) k0)) (fun _ i => s.length - (intOf i).toNat)
  case atStart => exact ⟨0, by omega, rfl, by simp [rowR, cW]⟩
  case round =>
    obtain ⟨k, hk, rfl, rfl⟩ := hrel
    by_cases hlt : k < s.length
    · obtain ⟨b, off, rfl, hbl, hr⟩ := IA.row HV.out (by omega)
      have cr := hr k hlt
      have hki : (k : Int) < (s.length : Int) := by omega
      have hx := HOK.out _ (ia_mem hlt)
      have hb := rowR_bd (s.take k) k0
      have hb2 : (s.take k).length ≤ k := List.length_take_le _ _
      have SN : Hid _ := rowR_snoc (s.take k) (ia s k) k0
      clear hr
      by_cases he : (wd (ia s k) : Int) = k0
      · have d1 : ((wd (ia s k) : Int) == k0) = true := by rw [beq_iff_eq]; exact he
        have HE : Hid _ := he
        clear he
        go_wp2_with (go_at_call 21; refine (rwidth_any _ _ (by omega)).mono ?_; rintro e w' ⟨rfl, rfl⟩)
        go_round
        case rel => exact ⟨k + 1, by omega, by go_num, by rw [take_ia hlt, SN.out, if_pos HE.out]⟩
        case measure => simp [intOf]; omega
      · have d1 : ((wd (ia s k) : Int) == k0) = false := by rw [beq_eq_false_iff_ne]; exact he
        go_wp2_with (go_at_call 21; refine (rwidth_any _ _ (by omega)).mono ?_; rintro e w' ⟨rfl, rfl⟩)
        go_round
        case rel => exact ⟨k + 1, by omega, by go_num, by rw [take_ia hlt, SN.out, if_neg he]; simp⟩
        case measure => simp [intOf]; omega
    · obtain rfl : k = s.length := by omega
      rw [List.take_length]
      go_wp2
      go_ret
      exact ⟨rfl, rfl⟩
set_option maxHeartbeats 1000000 in
theorem rrank_any (v : Value) (s : List Int) (n : Int) (hv : IA w v s) (hok : Ok s) (hlen : s.length ≤ 1000) (hn : n ≤ 9223372036854775807) : Calls Try.prog 18 #[v, .int .i64 n] w fun e w' => e = .returned (.int .i64 (rankI s n)) ∧ w = w' := by
  obtain ⟨o, c, rfl⟩ := hv.shape
  have HV : Hid _ := hv
  have HOK : Hid _ := hok
  clear hv hok
  unfold rankI
  by_cases h0 : 0 ≤ n
  · rw [if_pos h0]
    go_enter Try.func18, Try.ntmps18
    go_wp2
    go_loop [5, 6] (fun u i => ∃ k : Nat, k ≤ s.length ∧ i = .int .i64 k ∧ u = .int .i64 (bW (s.take k) (wd n) : Int)) (fun _ i => s.length - (intOf i).toNat)
    case atStart => exact ⟨0, by omega, rfl, by simp [bW]⟩
    case round =>
      obtain ⟨k, hk, rfl, rfl⟩ := hrel
      by_cases hlt : k < s.length
      · obtain ⟨b, off, rfl, hbl, hr⟩ := IA.row HV.out (by omega)
        have cr := hr k hlt
        have hki : (k : Int) < (s.length : Int) := by omega
        have hx := HOK.out _ (ia_mem hlt)
        have hb := bW_le (s.take k) (wd n)
        have hb2 : (s.take k).length ≤ k := List.length_take_le _ _
        have SN : Hid _ := bW_snoc (s.take k) (ia s k) (wd n)
        have dk : decide (k < s.length) = true := by rw [decide_eq_true_eq]; exact hlt
        clear hr
        by_cases he : wd (ia s k) < wd n
        · have d1 : decide (wd (ia s k) < wd n) = true := by rw [decide_eq_true_eq]; exact he
          go_wp2_with (go_at_call 21; refine (rwidth_any _ _ (by omega)).mono ?_; rintro e w' ⟨rfl, rfl⟩)
          go_round
          case rel => exact ⟨k + 1, by omega, by go_num, by rw [take_ia hlt, SN.out, if_pos he]; go_num⟩
          case measure => simp [intOf]; omega
        · have d1 : decide (wd (ia s k) < wd n) = false := by rw [decide_eq_false_iff_not]; exact he
          go_wp2_with (go_at_call 21; refine (rwidth_any _ _ (by omega)).mono ?_; rintro e w' ⟨rfl, rfl⟩)
          go_round
          case rel => exact ⟨k + 1, by omega, by go_num, by rw [take_ia hlt, SN.out, if_neg he]; simp⟩
          case measure => simp [intOf]; omega
      · obtain rfl : k = s.length := by omega
        have dk : decide (s.length < s.length) = false := by rw [decide_eq_false_iff_not]; omega
        rw [List.take_length]
        go_wp2
        go_ret
        exact ⟨rfl, rfl⟩
  · rw [if_neg h0]
    by_cases hs : s.length = 0
    · have dk : decide (0 < s.length) = false := by rw [decide_eq_false_iff_not]; omega
      have dk2 : decide ((0 : Int) < (s.length : Int)) = false := by rw [decide_eq_false_iff_not]; omega
      go_enter Try.func18, Try.ntmps18
      go_wp2
      refine wp_loop_rounds 1 ?_
      rw [rounds_succ]
      go_wp2
      all_goals first
        | omega
        | (go_ret; exact ⟨rfl, rfl⟩)
    · have hn0 : n < 0 := by omega
      go_enter Try.func18, Try.ntmps18
      go_wp2
      refine wp_loop_rounds 1 ?_
      rw [rounds_succ]
      go_wp2
      all_goals first
        | omega
        | (go_ret; exact ⟨rfl, rfl⟩)
theorem rpart_bad (v : Value) (s : List Int) (p : Int) (hv : IA w v s) (hlen : s.length ≤ 1000) (hp : s.length = 0 ∨ p < 0 ∨ 1000 < p) : Calls Try.prog 11 #[v, .int .i64 p] w fun e w' => e = .returned (.tuple #[.int .i64 0, .int .i64 0, .bool false]) ∧ Gn w w' := by
  obtain ⟨o, c, rfl⟩ := hv.shape
  clear hv
  have hc : p < 0 ∨ (0 ≤ p ∧ 1000 < p) ∨ ((0 ≤ p ∧ p ≤ 1000) ∧ s.length = 0) := by omega
  clear hp
  rcases hc with hp | ⟨hp1, hp2⟩ | ⟨⟨hp1, hp2⟩, h0⟩
  · go_enter Try.func11, Try.ntmps11
    go_wp2
    exact bodyPost_ret (v := .tuple #[.int .i64 0, .int .i64 0, .bool false]) (by simp [results, Try.results11, go_sem]) rfl ⟨rfl, Gn.refl _⟩
  · go_enter Try.func11, Try.ntmps11
    go_wp2
    exact bodyPost_ret (v := .tuple #[.int .i64 0, .int .i64 0, .bool false]) (by simp [results, Try.results11, go_sem]) rfl ⟨rfl, Gn.refl _⟩
  · have hz : ((s.length : Int) == 0) = true := by simp; exact List.length_eq_zero_iff.1 h0
    clear h0
    go_enter Try.func11, Try.ntmps11
    go_wp2
    exact bodyPost_ret (v := .tuple #[.int .i64 0, .int .i64 0, .bool false]) (by simp [results, Try.results11, go_sem]) rfl ⟨rfl, Gn.refl _⟩
set_option maxHeartbeats 1000000 in
theorem rpart_any (v : Value) (s : List Int) (p : Int) (hv : IA w v s) (hok : Ok s) (hlen : s.length ≤ 1000) (h0 : 0 < s.length) (hp0 : 0 ≤ p) (hp1 : p ≤ 1000) :
    Calls Try.prog 11 #[v, .int .i64 p] w fun e w' => e = .returned (.tuple #[.int .i64 (loK (wd (ia s (place s.length p).toNat))), .int .i64 (hiK (wd (ia s (place s.length p).toNat))), .bool true]) ∧ Gn w w' := by
  obtain ⟨q1, q2, q3, q4⟩ := place_bd h0 hp0 hp1
  obtain ⟨o, c, rfl⟩ := hv.shape
  obtain ⟨b, off, rfl, hbl, hr⟩ := hv.row h0
  have hz : ((s.length : Int) == 0) = false := by simp; intro h; rw [h] at h0; simp at h0
  obtain ⟨a, ha⟩ : ∃ a : Nat, place s.length p = (a : Int) := ⟨(place s.length p).toNat, by omega⟩
  rw [ha] at q3 q4 ⊢
  rw [Int.toNat_natCast]
  have hal : a < s.length := by omega
  have cr := hr a hal
  have hx := hok _ (ia_mem hal)
  have hw := wd_63 hx.1 hx.2
  have ha' : p * ((s.length : Int) - 1) / 1000 = (a : Int) := ha
  have hali : (a : Int) < (s.length : Int) := by omega
  clear hv hr ha hok
  obtain ⟨x, hxx⟩ : ∃ x, ia s a = x := ⟨_, rfl⟩
  rw [hxx] at cr hx hw ⊢
  clear hxx
  by_cases hw0 : wd x = 0
  · have d1 : ((wd x : Int) == 0) = true := by rw [beq_iff_eq]; omega
    have e0 : Hid (wd x = 0) := hw0
    clear hw0
    go_enter Try.func11, Try.ntmps11
    go_wp2_with (go_at_call 21; refine (rwidth_any _ _ (by omega)).mono ?_; rintro e w' ⟨rfl, rfl⟩)
    all_goals exact bodyPost_ret (v := .tuple #[.int .i64 0, .int .i64 0, .bool true]) (by simp [results, Try.results11, go_sem]) rfl ⟨by rw [e0.out]; rfl, Gn.refl _⟩
  · obtain ⟨k, hk⟩ : ∃ k, wd x = k + 1 := ⟨wd x - 1, by omega⟩
    have HK : Hid _ := hk
    rw [hk] at hw ⊢
    have d1 : ((k : Int) + 1 == 0) = false := by rw [beq_eq_false_iff_ne]; omega
    have hk62 : k < 63 := by omega
    have hsh : Hid (wrap64 (2 ^ k) = loK (k + 1)) := shl_lo ⟨k, hk62⟩
    have hml : hiK (k + 1) ≤ 9223372036854775807 := by
      have : 2 ^ (k + 1) ≤ 2 ^ 63 := Nat.pow_le_pow_right (by omega) (by omega)
      have h3 : (2 : Nat) ^ 63 = 9223372036854775808 := by decide
      unfold hiK; omega
    have hmp := hiK_pos (k + 1)
    clear hw0 hk
    go_enter Try.func11, Try.ntmps11
    go_wp2_with (go_at_call 21; refine (rwidth_any _ _ (by omega)).mono ?_; rw [HK.out]; rintro e w' ⟨rfl, rfl⟩)
    refine wp_region_gr (by kernel_rfl) (by kernel_rfl) ?_
    repeat (go_big_quiet_step ((go_at_call 22; exact Calls.in_gr_same (rmask_any (k + 1) _ (by omega)))))
    refine wpQuiet_nil ?_
    rintro _ ⟨q4, rfl⟩
    go_wp2
    exact bodyPost_ret (v := .tuple #[.int .i64 (wrap64 (2 ^ k)), .int .i64 (hiK (k + 1)), .bool true]) (by simp [results, Try.results11, go_sem]) rfl ⟨by rw [hsh.out], by with_reducible (repeat (first | exact Gn.refl _ | refine Gn.gr ?_ _ | refine Gn.drew ?_))⟩
end
end Go.Proofs.Ytggfjpfjpinhoaa
