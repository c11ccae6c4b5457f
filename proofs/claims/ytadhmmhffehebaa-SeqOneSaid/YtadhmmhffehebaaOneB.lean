/- The walk of the law SeqOne: it returns true; cases 3 to 5. -/
import Derived.Test.YtadhmmhffehebaaOneFacts
namespace Go.Proofs.Ytadhmmhffehebaa
open Go.RowKit
set_option linter.unusedVariables false

attribute [local irreducible] meetS joinS inB cutS
set_option maxRecDepth 100000 in
set_option maxHeartbeats 4000000 in
theorem one_3 (n m f x g y : Int) (w : World) (hn : 0 ≤ n ∧ n ≤ 4294967295) (hm : 0 ≤ m ∧ m ≤ 4294967295) (hf : 0 ≤ f ∧ f ≤ 4294967295) (hx : 0 ≤ x ∧ x ≤ 4294967295) (hg : 0 ≤ g ∧ g ≤ 4294967295) (hy : 0 ≤ y ∧ y ≤ 4294967295)
    (hok : (meetS f (x % 1073741825) g (y % 1073741825)).2.2 = true) (hwas : (joinS f (x % 1073741825) g (y % 1073741825)).2.2 = true) (his : inB f (x % 1073741825) n = true) (hit : inB g (y % 1073741825) n = true) :
    Calls Try.prog 4 #[.int .u32 n, .int .u32 m, .int .u32 f, .int .u32 x, .int .u32 g, .int .u32 y] w fun e w' => e = .returned (.bool true) ∧ Gn w w' := by
  have hcomm := meetS_comm f (x % 1073741825) g (y % 1073741825) hf hg
  have hb := before_cases n m hn hm
  have hs0 := before_self n
  have hmi := meetS_in (f := f) (n := (x % 1073741825)) (g := g) (m := (y % 1073741825)) n hok
  rw [his, hit] at hmi
  simp only [Bool.true_and, Bool.false_and] at hmi
  obtain ⟨hmi, hm1⟩ := hmi
  have hji := joinS_in (f := f) (n := (x % 1073741825)) (g := g) (m := (y % 1073741825)) n hwas (.inl his)
  have hcut : cutS f (x % 1073741825) n = (f, (n - f) % 4294967296, n, (x % 1073741825) - (n - f) % 4294967296, true) := by unfold cutS; rw [if_pos his]
  have k1 : ((n - f) % 4294967296 + ((x % 1073741825) - (n - f) % 4294967296) == (x % 1073741825)) = true := by rw [beq_iff_eq]; omega
  have k2 : (f + (n - f)) % 4294967296 = n := by omega
  have k3 : (n + ((x % 1073741825) - (n - f) % 4294967296)) % 4294967296 = (f + (x % 1073741825)) % 4294967296 := by omega
  have HB : Hid _ := hb
  clear hb
  replace hcomm : Hid _ := hcomm
  replace hok : Hid _ := hok
  replace hwas : Hid _ := hwas
  replace his : Hid _ := his
  replace hcut : Hid _ := hcut
  replace hmi : Hid _ := hmi
  replace hm1 : Hid _ := hm1
  replace hit : Hid _ := hit
  replace hji : Hid _ := hji
  replace k1 : Hid _ := k1
  replace k2 : Hid _ := k2
  replace k3 : Hid _ := k3
  go_enter Try.func4, Try.ntmps4
  go_upto_region 1 with fail
  go_cut [45] (fun s wx => s = .bool false ∧ wx = w)
  case first =>
    skip
    rcases HB.out with ⟨rfl, h1, h2⟩ | ⟨h0, h3, h1, h2⟩ | ⟨h0, h3, h1, h2⟩ | ⟨h0, h3, h1, h2⟩
    all_goals
      go_wp2_with (go_at_call 12; refine (before_any _ _ _).mono ?_; rintro e w' ⟨rfl, rfl⟩; simp only [h1, h2, hs0])
      go_meet
      first | exact ⟨rfl, rfl⟩ | exact ⟨congrArg Value.bool (by simp [bne, h0, h3]), rfl⟩
  case rest =>
  obtain ⟨rfl, rfl⟩ := hcut
  go_wp2_with (first | (go_at_call 5; refine (meet_any _ _ _ _ _).mono ?_; rintro e w' ⟨rfl, p, rfl⟩; simp only [hcomm.out, hok.out]) | (go_at_call 8; refine (join_any _ _ _ _ _).mono ?_; rintro e w' ⟨rfl, p, rfl⟩; simp only [hwas.out]) | (go_at_call 10; refine (cut_any _ _ _ _ hf hn).mono ?_; rintro e w' ⟨rfl, p, rfl⟩; simp only [hcut.out]) | (go_at_call 14; refine (in_is _ _ _ _ _ (by first | rw [his.out] | rw [hmi.out] | rw [hit.out] | rw [hji.out])).mono ?_; rintro e w' ⟨rfl, p, rfl⟩))
  try dsimp only [List.append_eq, List.cons_append, List.nil_append]
  have hm1 := hm1.out
  refine wp_region_gr (by kernel_rfl) (by kernel_rfl) ?_
  repeat (go_big_quiet_step (first | (go_at_call 14; exact Calls.in_gr (in_is _ _ _ _ _ (by first | rw [his.out] | rw [hmi.out] | rw [hit.out] | rw [hji.out])))))
  refine wpQuiet_nil ?_
  rintro _ ⟨p, rfl⟩
  go_wp2_with (first | (go_at_call 5; refine (meet_any _ _ _ _ _).mono ?_; rintro e w' ⟨rfl, p, rfl⟩; simp only [hcomm.out, hok.out]) | (go_at_call 8; refine (join_any _ _ _ _ _).mono ?_; rintro e w' ⟨rfl, p, rfl⟩; simp only [hwas.out]) | (go_at_call 10; refine (cut_any _ _ _ _ hf hn).mono ?_; rintro e w' ⟨rfl, p, rfl⟩; simp only [hcut.out]) | (go_at_call 14; refine (in_is _ _ _ _ _ (by first | rw [his.out] | rw [hmi.out] | rw [hit.out] | rw [hji.out])).mono ?_; rintro e w' ⟨rfl, p, rfl⟩))
  try dsimp only [List.append_eq, List.cons_append, List.nil_append]
  replace k1 := k1.out
  replace k2 := k2.out
  replace k3 := k3.out
  refine wp_region_gr (by kernel_rfl) (by kernel_rfl) ?_
  repeat (go_big_quiet_step (first | (go_at_call 17; exact Calls.in_gr2 (end_is _ _ _)) | (go_at_call 18; exact Calls.in_gr2 (awake_is _))))
  refine wpQuiet_nil ?_
  rintro _ ⟨p, rfl⟩
  go_wp2
  go_ret
  exact ⟨rfl, by repeat (first | exact Gn.refl _ | refine Gn.gr ?_ _ | refine Gn.alloc ?_ _)⟩

set_option maxRecDepth 100000 in
set_option maxHeartbeats 4000000 in
theorem one_4 (n m f x g y : Int) (w : World) (hn : 0 ≤ n ∧ n ≤ 4294967295) (hm : 0 ≤ m ∧ m ≤ 4294967295) (hf : 0 ≤ f ∧ f ≤ 4294967295) (hx : 0 ≤ x ∧ x ≤ 4294967295) (hg : 0 ≤ g ∧ g ≤ 4294967295) (hy : 0 ≤ y ∧ y ≤ 4294967295)
    (hok : (meetS f (x % 1073741825) g (y % 1073741825)).2.2 = true) (hwas : (joinS f (x % 1073741825) g (y % 1073741825)).2.2 = true) (his : inB f (x % 1073741825) n = true) (hit : inB g (y % 1073741825) n = false) :
    Calls Try.prog 4 #[.int .u32 n, .int .u32 m, .int .u32 f, .int .u32 x, .int .u32 g, .int .u32 y] w fun e w' => e = .returned (.bool true) ∧ Gn w w' := by
  have hcomm := meetS_comm f (x % 1073741825) g (y % 1073741825) hf hg
  have hb := before_cases n m hn hm
  have hs0 := before_self n
  have hmi := meetS_in (f := f) (n := (x % 1073741825)) (g := g) (m := (y % 1073741825)) n hok
  rw [his, hit] at hmi
  simp only [Bool.true_and, Bool.false_and] at hmi
  obtain ⟨hmi, hm1⟩ := hmi
  have hji := joinS_in (f := f) (n := (x % 1073741825)) (g := g) (m := (y % 1073741825)) n hwas (.inl his)
  have hcut : cutS f (x % 1073741825) n = (f, (n - f) % 4294967296, n, (x % 1073741825) - (n - f) % 4294967296, true) := by unfold cutS; rw [if_pos his]
  have k1 : ((n - f) % 4294967296 + ((x % 1073741825) - (n - f) % 4294967296) == (x % 1073741825)) = true := by rw [beq_iff_eq]; omega
  have k2 : (f + (n - f)) % 4294967296 = n := by omega
  have k3 : (n + ((x % 1073741825) - (n - f) % 4294967296)) % 4294967296 = (f + (x % 1073741825)) % 4294967296 := by omega
  have HB : Hid _ := hb
  clear hb
  replace hcomm : Hid _ := hcomm
  replace hok : Hid _ := hok
  replace hwas : Hid _ := hwas
  replace his : Hid _ := his
  replace hcut : Hid _ := hcut
  replace hmi : Hid _ := hmi
  replace hm1 : Hid _ := hm1
  replace hit : Hid _ := hit
  replace hji : Hid _ := hji
  replace k1 : Hid _ := k1
  replace k2 : Hid _ := k2
  replace k3 : Hid _ := k3
  go_enter Try.func4, Try.ntmps4
  go_upto_region 1 with fail
  go_cut [45] (fun s wx => s = .bool false ∧ wx = w)
  case first =>
    skip
    rcases HB.out with ⟨rfl, h1, h2⟩ | ⟨h0, h3, h1, h2⟩ | ⟨h0, h3, h1, h2⟩ | ⟨h0, h3, h1, h2⟩
    all_goals
      go_wp2_with (go_at_call 12; refine (before_any _ _ _).mono ?_; rintro e w' ⟨rfl, rfl⟩; simp only [h1, h2, hs0])
      go_meet
      first | exact ⟨rfl, rfl⟩ | exact ⟨congrArg Value.bool (by simp [bne, h0, h3]), rfl⟩
  case rest =>
  obtain ⟨rfl, rfl⟩ := hcut
  go_wp2_with (first | (go_at_call 5; refine (meet_any _ _ _ _ _).mono ?_; rintro e w' ⟨rfl, p, rfl⟩; simp only [hcomm.out, hok.out]) | (go_at_call 8; refine (join_any _ _ _ _ _).mono ?_; rintro e w' ⟨rfl, p, rfl⟩; simp only [hwas.out]) | (go_at_call 10; refine (cut_any _ _ _ _ hf hn).mono ?_; rintro e w' ⟨rfl, p, rfl⟩; simp only [hcut.out]) | (go_at_call 14; refine (in_is _ _ _ _ _ (by first | rw [his.out] | rw [hmi.out] | rw [hit.out] | rw [hji.out])).mono ?_; rintro e w' ⟨rfl, p, rfl⟩))
  try dsimp only [List.append_eq, List.cons_append, List.nil_append]
  have hm1 := hm1.out
  refine wp_region_gr (by kernel_rfl) (by kernel_rfl) ?_
  repeat (go_big_quiet_step (first | (go_at_call 14; exact Calls.in_gr (in_is _ _ _ _ _ (by first | rw [his.out] | rw [hmi.out] | rw [hit.out] | rw [hji.out])))))
  refine wpQuiet_nil ?_
  rintro _ ⟨p, rfl⟩
  go_wp2_with (first | (go_at_call 5; refine (meet_any _ _ _ _ _).mono ?_; rintro e w' ⟨rfl, p, rfl⟩; simp only [hcomm.out, hok.out]) | (go_at_call 8; refine (join_any _ _ _ _ _).mono ?_; rintro e w' ⟨rfl, p, rfl⟩; simp only [hwas.out]) | (go_at_call 10; refine (cut_any _ _ _ _ hf hn).mono ?_; rintro e w' ⟨rfl, p, rfl⟩; simp only [hcut.out]) | (go_at_call 14; refine (in_is _ _ _ _ _ (by first | rw [his.out] | rw [hmi.out] | rw [hit.out] | rw [hji.out])).mono ?_; rintro e w' ⟨rfl, p, rfl⟩))
  try dsimp only [List.append_eq, List.cons_append, List.nil_append]
  replace k1 := k1.out
  replace k2 := k2.out
  replace k3 := k3.out
  refine wp_region_gr (by kernel_rfl) (by kernel_rfl) ?_
  repeat (go_big_quiet_step (first | (go_at_call 17; exact Calls.in_gr2 (end_is _ _ _)) | (go_at_call 18; exact Calls.in_gr2 (awake_is _))))
  refine wpQuiet_nil ?_
  rintro _ ⟨p, rfl⟩
  go_wp2
  go_ret
  exact ⟨rfl, by repeat (first | exact Gn.refl _ | refine Gn.gr ?_ _ | refine Gn.alloc ?_ _)⟩

set_option maxRecDepth 100000 in
set_option maxHeartbeats 4000000 in
theorem one_5 (n m f x g y : Int) (w : World) (hn : 0 ≤ n ∧ n ≤ 4294967295) (hm : 0 ≤ m ∧ m ≤ 4294967295) (hf : 0 ≤ f ∧ f ≤ 4294967295) (hx : 0 ≤ x ∧ x ≤ 4294967295) (hg : 0 ≤ g ∧ g ≤ 4294967295) (hy : 0 ≤ y ∧ y ≤ 4294967295)
    (hok : (meetS f (x % 1073741825) g (y % 1073741825)).2.2 = true) (hwas : (joinS f (x % 1073741825) g (y % 1073741825)).2.2 = true) (his : inB f (x % 1073741825) n = false) (hit : inB g (y % 1073741825) n = true) :
    Calls Try.prog 4 #[.int .u32 n, .int .u32 m, .int .u32 f, .int .u32 x, .int .u32 g, .int .u32 y] w fun e w' => e = .returned (.bool true) ∧ Gn w w' := by
  have hcomm := meetS_comm f (x % 1073741825) g (y % 1073741825) hf hg
  have hb := before_cases n m hn hm
  have hs0 := before_self n
  have hmi := meetS_in (f := f) (n := (x % 1073741825)) (g := g) (m := (y % 1073741825)) n hok
  rw [his, hit] at hmi
  simp only [Bool.true_and, Bool.false_and] at hmi
  obtain ⟨hmi, hm1⟩ := hmi
  have hji := joinS_in (f := f) (n := (x % 1073741825)) (g := g) (m := (y % 1073741825)) n hwas (.inr hit)
  have hcut : cutS f (x % 1073741825) n = (0, 0, 0, 0, false) := by unfold cutS; rw [his]; rfl
  have HB : Hid _ := hb
  clear hb
  replace hcomm : Hid _ := hcomm
  replace hok : Hid _ := hok
  replace hwas : Hid _ := hwas
  replace his : Hid _ := his
  replace hcut : Hid _ := hcut
  replace hmi : Hid _ := hmi
  replace hm1 : Hid _ := hm1
  replace hit : Hid _ := hit
  replace hji : Hid _ := hji
  go_enter Try.func4, Try.ntmps4
  go_upto_region 1 with fail
  go_cut [45] (fun s wx => s = .bool false ∧ wx = w)
  case first =>
    skip
    rcases HB.out with ⟨rfl, h1, h2⟩ | ⟨h0, h3, h1, h2⟩ | ⟨h0, h3, h1, h2⟩ | ⟨h0, h3, h1, h2⟩
    all_goals
      go_wp2_with (go_at_call 12; refine (before_any _ _ _).mono ?_; rintro e w' ⟨rfl, rfl⟩; simp only [h1, h2, hs0])
      go_meet
      first | exact ⟨rfl, rfl⟩ | exact ⟨congrArg Value.bool (by simp [bne, h0, h3]), rfl⟩
  case rest =>
  obtain ⟨rfl, rfl⟩ := hcut
  go_wp2_with (first | (go_at_call 5; refine (meet_any _ _ _ _ _).mono ?_; rintro e w' ⟨rfl, p, rfl⟩; simp only [hcomm.out, hok.out]) | (go_at_call 8; refine (join_any _ _ _ _ _).mono ?_; rintro e w' ⟨rfl, p, rfl⟩; simp only [hwas.out]) | (go_at_call 10; refine (cut_any _ _ _ _ hf hn).mono ?_; rintro e w' ⟨rfl, p, rfl⟩; simp only [hcut.out]) | (go_at_call 14; refine (in_is _ _ _ _ _ (by first | rw [his.out] | rw [hmi.out] | rw [hit.out] | rw [hji.out])).mono ?_; rintro e w' ⟨rfl, p, rfl⟩))
  try dsimp only [List.append_eq, List.cons_append, List.nil_append]
  have hm1 := hm1.out
  refine wp_region_gr (by kernel_rfl) (by kernel_rfl) ?_
  repeat (go_big_quiet_step (first | (go_at_call 14; exact Calls.in_gr (in_is _ _ _ _ _ (by first | rw [his.out] | rw [hmi.out] | rw [hit.out] | rw [hji.out])))))
  refine wpQuiet_nil ?_
  rintro _ ⟨p, rfl⟩
  go_wp2_with (first | (go_at_call 5; refine (meet_any _ _ _ _ _).mono ?_; rintro e w' ⟨rfl, p, rfl⟩; simp only [hcomm.out, hok.out]) | (go_at_call 8; refine (join_any _ _ _ _ _).mono ?_; rintro e w' ⟨rfl, p, rfl⟩; simp only [hwas.out]) | (go_at_call 10; refine (cut_any _ _ _ _ hf hn).mono ?_; rintro e w' ⟨rfl, p, rfl⟩; simp only [hcut.out]) | (go_at_call 14; refine (in_is _ _ _ _ _ (by first | rw [his.out] | rw [hmi.out] | rw [hit.out] | rw [hji.out])).mono ?_; rintro e w' ⟨rfl, p, rfl⟩))
  try dsimp only [List.append_eq, List.cons_append, List.nil_append]
  refine wp_region_gr (by kernel_rfl) (by kernel_rfl) ?_
  repeat (go_big_quiet_step (first | (go_at_call 17; exact Calls.in_gr2 (end_is _ _ _)) | (go_at_call 18; exact Calls.in_gr2 (awake_is _))))
  refine wpQuiet_nil ?_
  rintro _ ⟨p, rfl⟩
  go_wp2
  go_ret
  exact ⟨rfl, by repeat (first | exact Gn.refl _ | refine Gn.gr ?_ _ | refine Gn.alloc ?_ _)⟩

end Go.Proofs.Ytadhmmhffehebaa
