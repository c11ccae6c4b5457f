/- The walk of the law SmoothTells: it returns true, for all words and slices of words. -/
import Derived.Test.YthgcdoiodeagcaaAwake
import Derived.Deep.Slices
import Derived.ChangeArms
import Derived.OpenShut
import Derived.WideShapes
namespace Go.Proofs.Ythgcdoiodeagcaa
open Go.ChangeShapes Go.WideShapes Go.RowKit Go.Deep

def FA (w : World) (v : Value) (xs : List Nat) : Prop :=
  (xs = [] ∧ ∃ o c, v = .slice o 0 c) ∨ ∃ b off cap, v = .slice (some ⟨b, off, none⟩) xs.length cap ∧ Fl w b off xs
theorem FA.shape {w : World} {v : Value} {l : List Nat} (h : FA w v l) : ∃ o c, v = .slice o l.length c := by
  rcases h with ⟨rfl, o, c, rfl⟩ | ⟨b, off, cap, rfl, _⟩ <;> exact ⟨_, _, rfl⟩
theorem FA.gn {w w' : World} {v : Value} {xs : List Nat} (h : FA w v xs) (hg : Gn w w') : FA w' v xs := by
  rcases h with h | ⟨b, off, cap, e, hf⟩
  · exact .inl h
  · exact .inr ⟨b, off, cap, e, fl_gn hf hg⟩
section
variable (w : World)
theorem same_refl (x : Nat) : Calls Try.prog 13 #[.float .f64 x, .float .f64 x] w fun e w' => e = .returned (.bool true) ∧ w = w' := by
  cases hn : nan x
  · exact same_self w x hn
  · have q1 := q_nself x
    rw [hn] at q1
    clear hn
    go_enter Try.func13, Try.ntmps13
    go_wp2
    go_ret
    exact ⟨rfl, rfl⟩
theorem run_fa (a s : Nat) (v : Value) (xs : List Nat) (ha : a < 18446744073709551616) (hs : s < 18446744073709551616) (h : Wd xs) (hv : FA w v xs) :
    Calls Try.prog 16 #[.float .f64 a, .float .f64 s, v] w fun e w' => e = .returned (.float .f64 (run a s xs xs.length)) ∧ w = w' := by
  rcases hv with ⟨rfl, o, c, rfl⟩ | ⟨b, off, cap, rfl, hf⟩
  · exact run_nil w a s c o
  · exact run_any w a s b off cap xs ha hs h hf
theorem rrun_fa (a s : Nat) (v : Value) (xs : List Nat) (ha : a < 18446744073709551616) (hs : s < 18446744073709551616) (h : Wd xs) (hv : FA w v xs) :
    Calls Try.prog 17 #[.float .f64 a, .float .f64 s, v] w fun e w' => e = .returned (.float .f64 (run a s xs xs.length)) ∧ w = w' := by
  rcases hv with ⟨rfl, o, c, rfl⟩ | ⟨b, off, cap, rfl, hf⟩
  · exact rrun_nil w a s c o
  · exact rrun_any w a s b off cap xs ha hs h hf
theorem best_fa (v : Value) (xs : List Nat) (h : Wd xs) (hv : FA w v xs) : Calls Try.prog 20 #[v] w fun e w' => e = .returned (.int .i64 (bestI xs xs.length)) ∧ w = w' := by
  rcases hv with ⟨rfl, o, c, rfl⟩ | ⟨b, off, cap, rfl, hf⟩
  · exact best_nil w c o
  · exact best_any w b off cap xs h hf
theorem rbest_fa (v : Value) (xs : List Nat) (h : Wd xs) (hv : FA w v xs) : Calls Try.prog 21 #[v] w fun e w' => e = .returned (.int .i64 (bestI xs xs.length)) ∧ Gn w w' := by
  rcases hv with ⟨rfl, o, c, rfl⟩ | ⟨b, off, cap, rfl, hf⟩
  · exact (rbest_nil w c o).mono fun _ _ ⟨he, hw⟩ => ⟨he, hw ▸ Gn.refl _⟩
  · exact rbest_any w b off cap xs h hf
set_option maxHeartbeats 4000000 in
set_option maxRecDepth 100000 in
theorem tells_walk (a b s : Nat) (v : Value) (xs : List Nat) (n m : Int) (ha : a < 18446744073709551616) (hb : b < 18446744073709551616) (hs : s < 18446744073709551616) (h : Wd xs) (hv : FA w v xs) :
    Calls Try.prog 5 #[.float .f64 a, .float .f64 b, .float .f64 s, v, .int .i64 n, .int .i64 m] w fun e w' => e = .returned (.bool true) ∧ Gn w w' := by
  obtain ⟨o, c, rfl⟩ := hv.shape
  have hl := h.1
  have H : Hid _ := h
  have HV : Hid _ := hv
  clear h hv
  by_cases a1 : 20 < xs.length
  · have d1 : decide ((20 : Int) < (xs.length : Int)) = true := by rw [decide_eq_true_eq]; omega
    go_enter Try.func5, Try.ntmps5
    go_wp2_with (first | (go_at_call 9; refine (awake_any _).mono ?_; rintro y w' ⟨rfl, q, rfl⟩))
    all_goals first
      | omega
      | (go_ret; exact ⟨rfl, by repeat (first | exact Gn.refl _ | refine Gn.gr ?_ _)⟩)
  have d1 : decide ((20 : Int) < (xs.length : Int)) = false := by rw [decide_eq_false_iff_not]; omega
  go_enter Try.func5, Try.ntmps5
  go_wp2_with (first | (go_at_call 10; refine (clean_any _ _ ha).mono ?_; rintro e w' ⟨rfl, rfl⟩) | (go_at_call 14; refine (rclean_any _ _).mono ?_; rintro e w' ⟨rfl, rfl⟩) | (go_at_call 13; refine (same_refl _ _).mono ?_; rintro e w' ⟨rfl, rfl⟩) | (go_at_call 11; refine (step_any _ _ _ _ ha hb hs).mono ?_; rintro e w' ⟨rfl, rfl⟩) | (go_at_call 15; refine (rstep_any _ _ _ _ ha hb hs).mono ?_; rintro e w' ⟨rfl, rfl⟩) | (go_at_call 16; refine (run_fa _ _ _ _ xs ha hs H.out HV.out).mono ?_; rintro e w' ⟨rfl, rfl⟩) | (go_at_call 17; refine (rrun_fa _ _ _ _ xs ha hs H.out HV.out).mono ?_; rintro e w' ⟨rfl, rfl⟩) | (go_at_call 6; refine (less_any _ _ _ ha hb).mono ?_; rintro e w' ⟨rfl, rfl⟩) | (go_at_call 18; refine (rless_any _ _ _ ha hb).mono ?_; rintro e w' ⟨rfl, rfl⟩) | (go_at_call 7; refine (key_any _ _ ha).mono ?_; rintro e w' ⟨rfl, rfl⟩) | (go_at_call 19; refine (rkey_any _ _ ha).mono ?_; rintro e w' ⟨rfl, rfl⟩) | (go_at_call 20; refine (best_fa _ _ xs H.out HV.out).mono ?_; rintro e w' ⟨rfl, rfl⟩) | (go_at_call 21; refine (rbest_fa _ _ xs H.out HV.out).mono ?_; rintro e w' ⟨rfl, p, rfl⟩) | (go_at_call 22; refine (ratio_any _ _ _).mono ?_; rintro e w' ⟨rfl, p2, rfl⟩) | (go_at_call 23; refine (rratio_any _ _ _).mono ?_; rintro e w' ⟨rfl, p3, rfl⟩) | (go_at_call 9; refine (awake_any _).mono ?_; rintro y w' ⟨rfl, q, rfl⟩))
  all_goals first
    | omega
    | (go_ret; exact ⟨rfl, by repeat (first | exact Gn.refl _ | refine Gn.gr ?_ _)⟩)
end
theorem trod_float {H : Type} {enc : TypeId × Value → H} {w : World} {base : Nat} {spare : Nat → Bool} {held : Bool} {fuel : Nat} {cs : List Value} {x : DataW H × List MemPlace} {t : TypeId} {k : FloatKind} (ht : Try.prog.underlying t = some (.float k)) (h : DataW.trod enc Try.prog w base spare held fuel t cs = some x) : ∃ n, cs = [.float k n] ∧ (Lit.float k n).wf = true := by
  cases fuel with
  | zero => simp [DataW.trod] at h
  | succ n =>
    unfold DataW.trod at h
    rw [ht] at h
    split at h <;> simp_all
theorem cells22 : Try.prog.cellsOf 22 = 1 := by kernel_rfl
theorem open_fa {H : Type} {enc : TypeId × Value → H} {w : World} {b0 : Nat} {held : Bool} {r : Reach} {v : Value} {d : DataW H} {p : List MemPlace}
    (hv : Value.okWide Try.prog w r b0 31 v) (h : DataW.Trod enc Try.prog w 0 (fun _ => true) held 31 v d p) : ∃ xs, FA w v xs ∧ Wd xs := by
  obtain ⟨o, len, cap, rfl⟩ := okWide_slice Try.underlying31 hv
  obtain ⟨fuel, hf⟩ := h
  rcases open_slice1 Try.underlying31 cells22 hf with ⟨h0, _⟩ | ⟨a, len', cap', m, n, V, D, Pl, hcs, _, hl, hm, hmm, _, hi⟩
  · simp [Value.cells] at h0
    obtain ⟨rfl, rfl, rfl⟩ := h0
    exact ⟨[], .inl ⟨rfl, _, _, rfl⟩, by decide, fun k hk => absurd hk (by simp)⟩
  · simp [Value.cells] at hcs
    obtain ⟨rfl, rfl, rfl⟩ := hcs
    simp only [if_true] at hmm
    subst hmm
    rcases Nat.eq_zero_or_pos len with rfl | hpos
    · exact ⟨[], .inl ⟨rfl, _, _, rfl⟩, by decide, fun k hk => absurd hk (by simp)⟩
    have each : ∀ i, i < len → ∃ q : Nat, w.cell? (a.add i) = some (.float .f64 q) ∧ q < 18446744073709551616 := fun i hil => by
      obtain ⟨hc, ht⟩ := hi i (by omega)
      obtain ⟨q, e, hw⟩ := trod_float Try.underlying22 ht
      injection e with e
      exact ⟨q, by rw [hc, e], by simpa [Lit.wf] using hw⟩
    obtain ⟨f, hF⟩ := choose_lt each
    obtain ⟨b, off, sp⟩ := a
    have hsp : sp = none := by
      have h0 := (hF 0 hpos).1
      cases sp with
      | none => rfl
      | some s =>
        simp [Addr.add, World.cell?] at h0
        split at h0 <;> simp at h0
    subst hsp
    have hadd : ∀ x j, Addr.add ⟨b, x, none⟩ j = ⟨b, x + j, none⟩ := fun x j => by unfold Addr.add; split <;> simp_all
    have he : ∀ k, k < len → nth ((List.range len).map f) k = f k := fun k hk => by simp [nth, hk]
    refine ⟨(List.range len).map f, .inr ⟨b, off, m, by simp, fun k hk => ?_⟩, by simp; unfold maxLen at hm; omega, fun k hk => ?_⟩
    · simp only [List.length_map, List.length_range] at hk
      rw [he k hk, ← hadd]
      exact (hF k hk).1
    · simp only [List.length_map, List.length_range] at hk
      rw [he k hk]
      exact (hF k hk).2
end Go.Proofs.Ythgcdoiodeagcaa
