/- The walk of the law BucketPlays. -/
import Derived.Test.YtbkbfibmnolfmaaRun
namespace Go.Proofs.Ytbkbfibmnolfmaa
open Go.RowKit

def badT (no t : Int) : Prop := t < no ∨ 1099511627776 < t
def Stp (ra ro no ha t E no' ha' : Int) : Prop := (badT no t ∧ E = 15 ∧ no' = no ∧ ha' = ha) ∨ (¬ badT no t ∧ E = 0 ∧ no' = t ∧ ha' = later ra ro no ha t)
def Tk (ha z : Int) (q : Bool) (ha2 : Int) : Prop := (q = true ∧ (0 ≤ z ∧ z ≤ ha) ∧ ha2 = ha - z) ∨ (q = false ∧ ¬ (0 ≤ z ∧ z ≤ ha) ∧ ha2 = ha)
section
variable (ra ro no ha t E no' ha' z ha2 : Int) (q : Bool) (tb : Nat) (w : World)
theorem go_any (hs : Stp ra ro no ha t E no' ha') (h : BB w tb true ra ro no ha) (h0 : 0 ≤ no ∧ no ≤ 1099511627776) (h2 : 0 ≤ ra ∧ ra ≤ 1048576) (h3 : 0 ≤ ro ∧ ro ≤ 1048576) (h4 : 0 ≤ ha ∧ ha ≤ ro) :
    Calls Try.prog 7 #[.pointer (some ⟨tb, 0, none⟩), .int .i64 t] w fun e w' => e = .returned (.int .i64 E) ∧ BB w' tb true ra ro no' ha' ∧ Kp (fun j => j = tb) w w' := by
  unfold Stp badT at hs
  rcases hs with ⟨hb, rfl, rfl, rfl⟩ | ⟨hb, rfl, rfl, rfl⟩
  · exact (go_no tb ra ro _ _ t w h hb).mono fun e w' ⟨he, hg⟩ => ⟨he, h.grown hg, Kp.of_gn _ hg⟩
  · exact go_is tb ra ro no ha _ w h (by omega) (by omega) h2 h3 h4
theorem rgo_any (hs : Stp ra ro no ha t E no' ha') (h : RB w tb ra ro no ha) (h0 : 0 ≤ no ∧ no ≤ 1099511627776) (h2 : 0 ≤ ra ∧ ra ≤ 1048576) (h3 : 0 ≤ ro ∧ ro ≤ 1048576) (h4 : 0 ≤ ha ∧ ha ≤ ro) :
    Calls Try.prog 13 #[.pointer (some ⟨tb, 0, none⟩), .int .i64 t] w fun e w' => e = .returned (.int .i64 E) ∧ RB w' tb ra ro no' ha' ∧ Kp (fun j => j = tb) w w' := by
  unfold Stp at hs
  rcases hs with ⟨hb, rfl, rfl, rfl⟩ | ⟨hb, rfl, rfl, rfl⟩
  · exact (rgo_no tb ra ro _ _ t w h hb).mono fun e w' ⟨he, hg⟩ => ⟨he, h.grown hg, Kp.of_gn _ hg⟩
  · exact rgo_is tb ra ro no ha _ w h (by unfold badT at hb; omega) (by unfold badT at hb; omega) h2 h3 h4
theorem take_any (hs : Tk ha z q ha2) (h : BB w tb true ra ro no ha) (h4 : ha ≤ 1048576) :
    Calls Try.prog 8 #[.pointer (some ⟨tb, 0, none⟩), .int .i64 z] w fun e w' => e = .returned (.bool q) ∧ BB w' tb true ra ro no ha2 ∧ Kp (fun j => j = tb) w w' := by
  unfold Tk at hs
  rcases hs with ⟨rfl, hz, rfl⟩ | ⟨rfl, hz, rfl⟩
  · exact take_is tb ra ro no ha z w h hz.1 hz.2 h4
  · exact (take_no tb true ra ro no _ z w h (by omega)).mono fun e w' ⟨he, hg⟩ => ⟨he, h.grown hg, Kp.of_gn _ hg⟩
theorem rtake_any (hs : Tk ha z q ha2) (h : RB w tb ra ro no ha) (h4 : ha ≤ 1048576) :
    Calls Try.prog 14 #[.pointer (some ⟨tb, 0, none⟩), .int .i64 z] w fun e w' => e = .returned (.bool q) ∧ RB w' tb ra ro no ha2 ∧ Kp (fun j => j = tb) w w' := by
  unfold Tk at hs
  rcases hs with ⟨rfl, hz, rfl⟩ | ⟨rfl, hz, rfl⟩
  · exact rtake_is tb ra ro no ha z w h hz.1 hz.2 h4
  · exact (rtake_no tb ra ro no _ z w h (by omega)).mono fun e w' ⟨he, hg⟩ => ⟨he, h.grown hg, Kp.of_gn _ hg⟩
end
def Inv (ra ro : Int) (l : List (Int × Int)) (k : Nat) (no ha sum : Int) (bad : Bool) : Prop :=
  (bad = false ∧ runL ra ro l 0 ro 0 = runL ra ro (l.drop k) no ha sum) ∨ (bad = true ∧ runL ra ro l 0 ro 0 = -1)
theorem Inv.step {ra ro : Int} {l : List (Int × Int)} {k : Nat} {no ha sum E no' ha' ha2 : Int} {bad q : Bool} (h : Inv ra ro l k no ha sum bad) (hk : k < l.length)
    (hs : Stp ra ro no ha (pe l k).1 E no' ha') (ht : Tk ha' (pe l k).2 q ha2) : Inv ra ro l (k + 1) no' ha2 (if q then sum + (pe l k).2 else sum) (bad || (E != 0)) := by
  rcases h with ⟨rfl, h⟩ | ⟨rfl, h⟩
  · rw [drop_pe hk, runL] at h
    unfold Stp badT at hs
    rcases hs with ⟨hb, rfl, rfl, rfl⟩ | ⟨hb, rfl, rfl, rfl⟩
    · right
      exact ⟨rfl, by rw [h, if_pos hb]⟩
    · left
      refine ⟨rfl, ?_⟩
      rw [h, if_neg hb]
      rcases ht with ⟨rfl, hz, rfl⟩ | ⟨rfl, hz, rfl⟩
      · rw [if_pos hz, if_pos rfl]
      · rw [if_neg hz]; rfl
  · right
    exact ⟨by simp, h⟩

set_option maxHeartbeats 8000000 in
set_option maxRecDepth 100000 in
theorem plays_walk (ra ro n : Int) (v : Value) (l : List (Int × Int)) (w : World) (hqa : QA w v l) (hl : l.length ≤ maxLen) :
    Calls Try.prog 4 #[.int .i64 ra, .int .i64 ro, v, .int .i64 n] w fun e w' => e = .returned (.bool true) ∧ Gn w w' := by
  obtain ⟨o, c, rfl⟩ := hqa.shape
  have HQ : Hid _ := hqa
  clear hqa
  unfold maxLen at hl
  by_cases a1 : 40 < l.length
  · have d1 : decide ((40 : Int) < (l.length : Int)) = true := by rw [decide_eq_true_eq]; omega
    go_enter Try.func4, Try.ntmps4
    go_wp2_with (first
      | (go_at_call 6; refine (awake_is _).mono ?_; rintro y w' ⟨rfl, q, rfl⟩))
    all_goals first
      | omega
      | (go_ret; exact ⟨rfl, (by with_reducible (repeat (first | exact Gn.refl _ | refine Gn.gr ?_ _ | refine Gn.alloc ?_ _ | refine Gn.drew ?_)))⟩)
  have d1 : decide ((40 : Int) < (l.length : Int)) = false := by rw [decide_eq_false_iff_not]; omega
  cases hm : (may ra && may ro)
  · have HM : Hid _ := hm
    clear hm
    go_enter Try.func4, Try.ntmps4
    go_wp2_with (first
      | (go_at_call 5; refine (new_no ra ro _ HM.out).mono ?_; rintro y w' ⟨rfl, q, rfl⟩)
      | (go_at_call 11; refine (rnew_no ra ro _ HM.out).mono ?_; rintro y w' ⟨rfl, q, rfl⟩)
      | (go_at_call 12; refine (run_no ra ro _ _ _ _ HM.out).mono ?_; rintro y w' ⟨rfl, q, rfl⟩)
      | (go_at_call 6; refine (awake_is _).mono ?_; rintro y w' ⟨rfl, q, rfl⟩))
    all_goals first
      | omega
      | (go_ret; exact ⟨rfl, (by with_reducible (repeat (first | exact Gn.refl _ | refine Gn.gr ?_ _ | refine Gn.alloc ?_ _ | refine Gn.drew ?_)))⟩)
  have hm' : may ra = true ∧ may ro = true := by simpa using hm
  have b1 : 0 ≤ ra ∧ ra ≤ 1048576 := by have := hm'.1; unfold may at this; simpa using this
  have b2 : 0 ≤ ro ∧ ro ≤ 1048576 := by have := hm'.2; unfold may at this; simpa using this
  have HM : Hid _ := hm'
  clear hm hm'
  go_enter Try.func4, Try.ntmps4
  go_wp2_with (first
    | (go_at_call 5; refine (new_is ra ro _ HM.out.1 HM.out.2).mono ?_; rintro y w1 ⟨tb, rfl, hot, hB, hg⟩; have htl := hB.lt; have B1 : Hid _ := hB; have G1 : Hid _ := hg; clear hB hg)
    | (go_at_call 11; refine (rnew_is ra ro _ HM.out.1 HM.out.2).mono ?_; rintro y w2 ⟨xb, rfl, hox, hR, hg⟩; have R1 : Hid _ := hR; have G2 : Hid _ := hg; clear hR hg))
  have hw1 := (Kp.of_gn (fun _ => False) (show Gn w w1 from G1.out)).size
  have hxt : ¬ xb = tb := by omega
  have htx : ¬ tb = xb := by omega
  have hoxw : w.heap.size ≤ xb := by omega
  have hst : BB w2 tb true ra ro 0 ro ∧ RB w2 xb ra ro 0 ro ∧ Inv ra ro l 0 0 ro 0 false ∧ Kp (fun j => w.heap.size ≤ j) w w2 :=
    ⟨BB.grown (show BB w1 tb true ra ro 0 ro from B1.out) G2.out, R1.out, .inl ⟨rfl, rfl⟩, Kp.of_gn _ ((show Gn w w1 from G1.out).trans G2.out)⟩
  have HS : Hid _ := hst
  clear hst B1 R1 G1 G2 htl
  go_loopw [11, 12, 13] (fun s d i wr => ∃ (k : Nat) (no ha sum : Int) (bad : Bool), k ≤ l.length ∧ i = .int .i64 k ∧ s = .int .i64 sum ∧ d = .bool bad ∧ (0 ≤ no ∧ no ≤ 1099511627776) ∧ (0 ≤ ha ∧ ha ≤ ro) ∧ (0 ≤ sum ∧ sum ≤ k * 1048576) ∧
      BB wr tb true ra ro no ha ∧ RB wr xb ra ro no ha ∧ Inv ra ro l k no ha sum bad ∧ Kp (fun j => w.heap.size ≤ j) w wr) (fun _ _ i _ => l.length - (intOf i).toNat)
  case atStart => exact ⟨0, 0, ro, 0, false, by omega, rfl, rfl, rfl, by omega, by omega, by omega, HS.out.1, HS.out.2.1, HS.out.2.2.1, HS.out.2.2.2⟩
  case round =>
    clear HS
    obtain ⟨k, no, ha, sum, bad, hk, rfl, rfl, rfl, n0, h0, s0, hB, hR, hI, hkp⟩ := hrel
    by_cases hlt : k < l.length
    · obtain ⟨b, off, rfl, hc⟩ := QA.row HQ.out (show 0 < l.length by omega)
      have hbw := hc.1
      obtain ⟨c0, c1⟩ := (qcells_kept hc hkp (fun e => by omega)).2 k hlt
      have hbl := World.block_lt_of_cell? _ _ c0
      have hbt : ¬ b = tb := by omega
      have hbx : ¬ b = xb := by omega
      obtain ⟨E, no', ha', hst⟩ : ∃ E no' ha', Stp ra ro no ha (pe l k).1 E no' ha' := by
        by_cases hb : badT no (pe l k).1
        · exact ⟨_, _, _, .inl ⟨hb, rfl, rfl, rfl⟩⟩
        · exact ⟨_, _, _, .inr ⟨hb, rfl, rfl, rfl⟩⟩
      have hn' : (0 ≤ no' ∧ no' ≤ 1099511627776) ∧ (0 ≤ ha' ∧ ha' ≤ ro) := by
        rcases hst with ⟨hb, rfl, rfl, rfl⟩ | ⟨hb, rfl, rfl, rfl⟩
        · exact ⟨n0, h0⟩
        · unfold badT at hb
          exact ⟨by omega, later_in b1.1 (by omega) h0⟩
      obtain ⟨q, ha2, htk⟩ : ∃ q ha2, Tk ha' (pe l k).2 q ha2 := by
        by_cases hz : 0 ≤ (pe l k).2 ∧ (pe l k).2 ≤ ha'
        · exact ⟨_, _, .inl ⟨rfl, hz, rfl⟩⟩
        · exact ⟨_, _, .inr ⟨rfl, hz, rfl⟩⟩
      have hn2 : (0 ≤ ha2 ∧ ha2 ≤ ro) ∧ (q = true → 0 ≤ (pe l k).2 ∧ (pe l k).2 ≤ 1048576) := by
        rcases htk with ⟨rfl, hz, rfl⟩ | ⟨rfl, hz, rfl⟩
        · exact ⟨by omega, fun _ => by omega⟩
        · exact ⟨hn'.2, fun e => by cases e⟩
      have hinv := hI.step hlt hst htk
      have hE : E = 0 ∨ E = 15 := by
        rcases hst with ⟨_, e, _⟩ | ⟨_, e, _⟩
        · exact .inr e
        · exact .inl e
      have H7 : Hid (∀ w', BB w' tb true ra ro no ha → _) := fun w' h => go_any ra ro no ha (pe l k).1 E no' ha' tb w' hst h n0 b1 b2 h0
      have H13 : Hid (∀ w', RB w' xb ra ro no ha → _) := fun w' h => rgo_any ra ro no ha (pe l k).1 E no' ha' xb w' hst h n0 b1 b2 h0
      have H8 : Hid (∀ w', BB w' tb true ra ro no' ha' → _) := fun w' h => take_any ra ro no' ha' (pe l k).2 ha2 q tb w' htk h (by omega)
      have H14 : Hid (∀ w', RB w' xb ra ro no' ha' → _) := fun w' h => rtake_any ra ro no' ha' (pe l k).2 ha2 q xb w' htk h (by omega)
      generalize (pe l k).1 = t at *
      generalize (pe l k).2 = z at *
      have hki : (k : Int) < (l.length : Int) := by omega
      have B0 : Hid _ := hB
      have R0 : Hid _ := hR
      have HI : Hid _ := hinv
      have HK : Hid _ := hkp
      clear hB hR hI hinv hkp hst htk hc
      go_wp2
      go_region_held3 (fun w' => w'.cell? ⟨b, off + k * 2, none⟩ = some (.int .i64 t))
        (first | go_keep | assumption)
        (first
          | (go_at_call 7; refine (H7.out _ ?_).mono ?_; exact BB.grown (show BB wr tb true ra ro no ha from B0.out) (by with_reducible (repeat (first | exact Gn.refl _ | refine Gn.gr ?_ _ | refine Gn.alloc ?_ _ | refine Gn.drew ?_))); rintro y w3 ⟨rfl, hB, hK⟩; have k3 := (Kp.of_gn (fun j => j = tb) (show Gn wr _ from (by with_reducible (repeat (first | exact Gn.refl _ | refine Gn.gr ?_ _ | refine Gn.alloc ?_ _ | refine Gn.drew ?_))))).trans hK; have c0a := k3.cell c0 hbt; have c1a := k3.cell c1 hbt; have B3 : Hid _ := hB; have R3 : Hid _ := RB.kept (show RB wr xb ra ro no ha from R0.out) k3 hxt; have K3 : Hid _ := k3; clear hB hK k3)
          | (go_at_call 13; refine (H13.out _ ?_).mono ?_; exact RB.grown (show RB w3 xb ra ro no ha from R3.out) (by with_reducible (repeat (first | exact Gn.refl _ | refine Gn.gr ?_ _ | refine Gn.alloc ?_ _ | refine Gn.drew ?_))); rintro y w4 ⟨rfl, hR, hK⟩; have k4 := (Kp.of_gn (fun j => j = xb) (show Gn w3 _ from (by with_reducible (repeat (first | exact Gn.refl _ | refine Gn.gr ?_ _ | refine Gn.alloc ?_ _ | refine Gn.drew ?_))))).trans hK; have c0b := k4.cell c0a hbx; have c1b := k4.cell c1a hbx; have R4 : Hid _ := hR; have B4 : Hid _ := BB.kept (show BB w3 tb true ra ro no' ha' from B3.out) k4 htx; have K4 : Hid _ := k4; clear hR hK k4))
      all_goals
        go_wp2
        go_region_held3 (fun w' => w'.cell? ⟨b, off + k * 2 + 1, none⟩ = some (.int .i64 z))
          (first | go_keep | assumption)
          (first
            | (go_at_call 8; refine (H8.out _ ?_).mono ?_; exact BB.grown (show BB w4 tb true ra ro no' ha' from B4.out) (by with_reducible (repeat (first | exact Gn.refl _ | refine Gn.gr ?_ _ | refine Gn.alloc ?_ _ | refine Gn.drew ?_))); rintro y w5 ⟨rfl, hB, hK⟩; have k5 := (Kp.of_gn (fun j => j = tb) (show Gn w4 _ from (by with_reducible (repeat (first | exact Gn.refl _ | refine Gn.gr ?_ _ | refine Gn.alloc ?_ _ | refine Gn.drew ?_))))).trans hK; have c1c := k5.cell c1b hbt; have B5 : Hid _ := hB; have R5 : Hid _ := RB.kept (show RB w4 xb ra ro no' ha' from R4.out) k5 hxt; have K5 : Hid _ := k5; clear hB hK k5)
            | (go_at_call 14; refine (H14.out _ ?_).mono ?_; exact RB.grown (show RB w5 xb ra ro no' ha' from R5.out) (by with_reducible (repeat (first | exact Gn.refl _ | refine Gn.gr ?_ _ | refine Gn.alloc ?_ _ | refine Gn.drew ?_))); rintro y w6 ⟨rfl, hR, hK⟩; have k6 := (Kp.of_gn (fun j => j = xb) (show Gn w5 _ from (by with_reducible (repeat (first | exact Gn.refl _ | refine Gn.gr ?_ _ | refine Gn.alloc ?_ _ | refine Gn.drew ?_))))).trans hK; have c1d := k6.cell c1c hbx; have R6 : Hid _ := hR; have B6 : Hid _ := BB.kept (show BB w5 tb true ra ro no' ha2 from B5.out) k6 htx; have K6 : Hid _ := k6; clear hR hK k6))
        obtain ⟨xl, ⟨x0, x1, x2, x3⟩, _⟩ := RB.facts (show RB w6 xb ra ro no' ha2 from R6.out)
        have hbl6 := World.block_lt_of_cell? w6 _ c1d
        have HH : Hid (∀ p : Gr, Calls Try.prog 9 #[.pointer (some ⟨tb, 0, none⟩)] (w6.gr p) fun e w' => e = .returned (.int .i64 ha2) ∧ Gn (w6.gr p) w') := fun p => have_is tb true ra ro no' ha2 _ (BB.grown (show BB w6 tb true ra ro no' ha2 from B6.out) (by with_reducible (repeat (first | exact Gn.refl _ | refine Gn.gr ?_ _ | refine Gn.alloc ?_ _ | refine Gn.drew ?_))))
        have HW : Hid (∀ (x : Int) (p : Gr), _) := fun x p => when_is tb ra ro no' ha2 x (w6.gr p) (BB.grown (show BB w6 tb true ra ro no' ha2 from B6.out) (by with_reducible (repeat (first | exact Gn.refl _ | refine Gn.gr ?_ _ | refine Gn.alloc ?_ _ | refine Gn.drew ?_)))) hn'.1 b1 b2 hn2.1
        have HX : Hid (∀ (x : Int) (p : Gr), _) := fun x p => rwhen_is xb ra ro no' ha2 x (w6.gr p) (RB.grown (show RB w6 xb ra ro no' ha2 from R6.out) (by with_reducible (repeat (first | exact Gn.refl _ | refine Gn.gr ?_ _ | refine Gn.alloc ?_ _ | refine Gn.drew ?_)))) hn'.1 b1 b2 hn2.1
        go_wp2
        refine wp_region_gr (by kernel_rfl) (by kernel_rfl) ?_
        repeat (go_big_quiet_step (first | (go_at_call 9; exact Calls.in_gr (HH.out _)) | (go_at_call 10; exact Calls.in_gr (HW.out _ _)) | (go_at_call 15; exact Calls.in_gr (HX.out _ _))))
        refine wpQuiet_nil ?_
        rintro _ ⟨q4, rfl⟩
        have kall : Kp (fun j => w.heap.size ≤ j) w (w6.gr q4) := ((show Kp (fun j => w.heap.size ≤ j) w wr from HK.out).trans ((((K3.out.mono (S' := fun j => w.heap.size ≤ j) (fun j _ e => by subst e; exact hot)).trans
          (K4.out.mono (S' := fun j => w.heap.size ≤ j) (fun j _ e => by subst e; exact hoxw))).trans (K5.out.mono (S' := fun j => w.heap.size ≤ j) (fun j _ e => by subst e; exact hot))).trans (K6.out.mono (S' := fun j => w.heap.size ≤ j) (fun j _ e => by subst e; exact hoxw)))).gn (by with_reducible (repeat (first | exact Gn.refl _ | refine Gn.gr ?_ _ | refine Gn.alloc ?_ _ | refine Gn.drew ?_)))
        have KALL : Hid _ := kall
        clear kall K3 K4 K5 K6 B3 B4 B5 R3 R4 R5 HH HW HX H7 H8 H13 H14
        rcases hE with rfl | rfl <;> cases bad <;> cases q
        all_goals
          try (have hz := hn2.2 rfl)
          go_wp2
          go_roundw
          case rel => exact ⟨k + 1, no', ha2, _, _, by omega, by go_num, rfl, rfl, hn'.1, hn2.1, by omega, BB.grown (show BB w6 tb true ra ro no' ha2 from B6.out) (by with_reducible (repeat (first | exact Gn.refl _ | refine Gn.gr ?_ _ | refine Gn.alloc ?_ _ | refine Gn.drew ?_))), RB.grown (show RB w6 xb ra ro no' ha2 from R6.out) (by with_reducible (repeat (first | exact Gn.refl _ | refine Gn.gr ?_ _ | refine Gn.alloc ?_ _ | refine Gn.drew ?_))), HI.out, Kp.gn (show Kp (fun j => w.heap.size ≤ j) w (w6.gr q4) from KALL.out) (by with_reducible (repeat (first | exact Gn.refl _ | refine Gn.gr ?_ _ | refine Gn.alloc ?_ _ | refine Gn.drew ?_)))⟩
          case measure => simp [intOf]; omega
    · have hge : k = l.length := by omega
      subst hge
      have hqa := (show QA w _ l from HQ.out).kept hkp (fun j hj e => by omega)
      have hrun : ∀ w', Gn wr w' → _ := fun w' hg => run_is ra ro _ l w' HM.out.1 HM.out.2 (hqa.kept (Kp.of_gn (fun _ => False) hg) (fun _ _ e => e)) (by omega)
      have HK : Hid _ := hkp
      clear hqa hkp hB hR
      rcases hI with ⟨rfl, h⟩ | ⟨rfl, h⟩
      · rw [List.drop_length] at h
        rw [h] at hrun
        have HRUN : Hid (∀ w', Gn wr w' → Calls Try.prog 12 #[.int .i64 ra, .int .i64 ro, .slice o l.length c] w' fun e w'' => e = .returned (.int .i64 sum) ∧ Gn w' w'') := hrun
        clear hrun h
        go_wp2_with (first
          | (go_at_call 12; refine (HRUN.out _ (by with_reducible (repeat (first | exact Gn.refl _ | refine Gn.gr ?_ _ | refine Gn.alloc ?_ _ | refine Gn.drew ?_)))).mono ?_; rintro y w' ⟨rfl, qr, rfl⟩)
          | (go_at_call 6; refine (awake_is _).mono ?_; rintro y w' ⟨rfl, qa, rfl⟩))
        all_goals first
          | omega
          | (go_ret; exact ⟨rfl, ((show Kp (fun j => w.heap.size ≤ j) w wr from HK.out).gn (show Gn wr _ from (by with_reducible (repeat (first | exact Gn.refl _ | refine Gn.gr ?_ _ | refine Gn.alloc ?_ _ | refine Gn.drew ?_))))).to_gn (fun _ h => h)⟩)
      · rw [h] at hrun
        have HRUN : Hid (∀ w', Gn wr w' → Calls Try.prog 12 #[.int .i64 ra, .int .i64 ro, .slice o l.length c] w' fun e w'' => e = .returned (.int .i64 (-1)) ∧ Gn w' w'') := hrun
        clear hrun h
        go_wp2_with (first
          | (go_at_call 12; refine (HRUN.out _ (by with_reducible (repeat (first | exact Gn.refl _ | refine Gn.gr ?_ _ | refine Gn.alloc ?_ _ | refine Gn.drew ?_)))).mono ?_; rintro y w' ⟨rfl, qr, rfl⟩)
          | (go_at_call 6; refine (awake_is _).mono ?_; rintro y w' ⟨rfl, qa, rfl⟩))
        all_goals first
          | omega
          | (go_ret; exact ⟨rfl, ((show Kp (fun j => w.heap.size ≤ j) w wr from HK.out).gn (show Gn wr _ from (by with_reducible (repeat (first | exact Gn.refl _ | refine Gn.gr ?_ _ | refine Gn.alloc ?_ _ | refine Gn.drew ?_))))).to_gn (fun _ h => h)⟩)
end Go.Proofs.Ytbkbfibmnolfmaa
