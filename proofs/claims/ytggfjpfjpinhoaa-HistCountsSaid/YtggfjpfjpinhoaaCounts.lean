/- The walk of the law HistCounts. -/
import Derived.Test.YtggfjpfjpinhoaaH
namespace Go.Proofs.Ytggfjpfjpinhoaa
open Go.RowKit

theorem Hi.perm {w : World} {hb : Nat} {xs s : List Int} {l m : Int} (h : Hi w hb xs l m) (hp : s.Perm xs) : Hi w hb s l m := by
  refine ⟨h.nums.congr fun j _ => ?_, ?_, h.ok.perm hp, by rw [hp.length_eq]; exact h.len⟩
  · unfold hf
    rw [cW_perm hp, hp.length_eq, sm_perm hp]
  · rcases h.ends with ⟨h1, h2, h3⟩ | ⟨h1, h2, h3⟩
    · subst h1
      exact .inl ⟨hp.eq_nil, h2, h3⟩
    · exact .inr ⟨hp.symm.subset h1, hp.symm.subset h2, fun x hx => h3 x (hp.subset hx)⟩
theorem add_any (hb ob : Nat) (xs ys : List Int) (l m l' m' : Int) (w : World) (h : Hi w hb xs l m) (ho : Hi w ob ys l' m') (hne : ob ≠ hb) (hlen : xs.length + ys.length ≤ 1000) :
    Calls Try.prog 7 #[.pointer (some ⟨hb, 0, none⟩), .pointer (some ⟨ob, 0, none⟩)] w fun e w' => (∃ y, e = .returned y) ∧ (∃ l1 m1, Hi w' hb (xs ++ ys) l1 m1) ∧ Kp (fun j => j = hb) w w' := by
  by_cases h0 : ys.length = 0
  · have hy : ys = [] := List.length_eq_zero_iff.1 h0
    subst hy
    refine (add_empty hb ob l' m' w ho).mono ?_
    rintro e w' ⟨he, hg⟩
    exact ⟨he, ⟨l, m, by rw [List.append_nil]; exact h.grown hg⟩, Kp.of_gn _ hg⟩
  · exact add_is hb ob xs ys l m l' m' w h ho hne (by omega) hlen
theorem part_s (w : World) {hb : Nat} {s : List Int} {l m : Int} (h : Hi w hb s l m) (hs : Srt s) (p : Int) (h0 : 0 < s.length) (hp0 : 0 ≤ p) (hp1 : p ≤ 1000) :
    Calls Try.prog 10 #[.pointer (some ⟨hb, 0, none⟩), .int .i64 p] w fun e w' => e = .returned (.tuple #[.int .i64 (loK (wd (ia s (place s.length p).toNat))), .int .i64 (hiK (wd (ia s (place s.length p).toNat))), .bool true]) ∧ w = w' := by
  refine (part_is w h p h0 hp0 hp1).mono ?_
  rintro e w' ⟨k, ⟨_, h1, h2⟩, rfl, rfl⟩
  obtain ⟨_, _, q3, q4⟩ := place_bd h0 hp0 hp1
  obtain ⟨a, ha⟩ : ∃ a : Nat, place s.length p = (a : Int) := ⟨(place s.length p).toNat, by omega⟩
  rw [ha] at h1 h2 q4 ⊢
  rw [Int.toNat_natCast]
  have hal : a < s.length := by omega
  have r1 := srt_row s k a hs h.ok hal
  have r2 := srt_row s (k + 1) a hs h.ok hal
  have e : wd (ia s a) = k := by
    have g1 : ¬ wd (ia s a) < k := fun hh => by have := r1.2 hh; omega
    have g2 : wd (ia s a) < k + 1 := r2.1 (by omega)
    omega
  rw [e]
  exact ⟨rfl, rfl⟩
theorem IA.src {w : World} {A : Option Addr} {n c : Nat} {xs : List Int} (h : IA w (.slice A n c) xs) : 0 < n → ∃ b off, A = some ⟨b, off, none⟩ ∧ ∀ k, k < n → w.cell? ⟨b, off + k, none⟩ = some (.int .i64 (ia xs k)) := by
  intro hn
  rcases h with ⟨rfl, o, c', e⟩ | ⟨b, off, cap, e, hr⟩
  · cases e; omega
  · cases e; exact ⟨b, off, rfl, hr.2⟩
/-- Any Put. -/
theorem put_any (hb : Nat) (l : List Int) (k : Nat) (w : World) (h : ∃ a b, Hi w hb (pos (l.take k)) a b) (hk : k < l.length) (hx : ia l k ≤ 9223372036854775807) (hlen : l.length ≤ 60) :
    Calls Try.prog 6 #[.pointer (some ⟨hb, 0, none⟩), .int .i64 (ia l k)] w fun e w' => e = .returned (.bool (decide (0 ≤ ia l k))) ∧ (∃ a b, Hi w' hb (pos (l.take (k + 1))) a b) ∧ Kp (fun j => j = hb) w w' := by
  obtain ⟨a, b, h⟩ := h
  rw [take_ia hk, pos_snoc]
  by_cases h0 : 0 ≤ ia l k
  · rw [if_pos h0, decide_eq_true h0]
    have := pos_len (l.take k)
    have h2 : (l.take k).length ≤ k := List.length_take_le _ _
    exact put_is hb _ a b (ia l k) w h h0 hx (by omega)
  · rw [if_neg h0, decide_eq_false h0]
    refine (put_neg hb (ia l k) w (by omega)).mono ?_
    rintro e w' ⟨rfl, rfl⟩
    exact ⟨rfl, ⟨a, b, h⟩, Kp.refl _ _⟩

set_option maxHeartbeats 8000000 in
set_option maxRecDepth 100000 in
theorem counts_walk (v1 v2 : Value) (l m : List Int) (n k0 mille : Int) (w : World) (hv1 : IA w v1 l) (hv2 : IA w v2 m) (hm1 : l.length ≤ maxLen) (hm2 : m.length ≤ maxLen)
    (hx1 : ∀ x ∈ l, x ≤ 9223372036854775807) (hx2 : ∀ x ∈ m, x ≤ 9223372036854775807) (hn : n ≤ 9223372036854775807) :
    Calls Try.prog 3 #[v1, v2, .int .i64 n, .int .i64 k0, .int .i64 mille] w fun e w' => e = .returned (.bool true) ∧ Gn w w' := by
  obtain ⟨o1, c1, rfl⟩ := hv1.shape
  obtain ⟨o2, c2, rfl⟩ := hv2.shape
  have HV1 : Hid _ := hv1
  have HV2 : Hid _ := hv2
  have HX1 : Hid _ := hx1
  have HX2 : Hid _ := hx2
  unfold maxLen at hm1 hm2
  have hz := zero27
  clear hv1 hv2 hx1 hx2
  by_cases a1 : 60 < l.length
  · have d1 : decide ((60 : Int) < (l.length : Int)) = true := by rw [decide_eq_true_eq]; omega
    go_enter Try.func3, Try.ntmps3
    go_wp2_with (first | (go_at_call 5; refine (awake_any _).mono ?_; rintro y w' ⟨rfl, q, rfl⟩))
    all_goals first
      | omega
      | (go_ret; exact ⟨rfl, (by with_reducible (repeat (first | exact Gn.refl _ | refine Gn.gr ?_ _ | refine Gn.alloc ?_ _ | refine Gn.drew ?_)))⟩)
  have d1 : decide ((60 : Int) < (l.length : Int)) = false := by rw [decide_eq_false_iff_not]; omega
  by_cases a2 : 60 < m.length
  · have d2 : decide ((60 : Int) < (m.length : Int)) = true := by rw [decide_eq_true_eq]; omega
    go_enter Try.func3, Try.ntmps3
    go_wp2_with (first | (go_at_call 5; refine (awake_any _).mono ?_; rintro y w' ⟨rfl, q, rfl⟩))
    all_goals first
      | omega
      | (go_ret; exact ⟨rfl, (by with_reducible (repeat (first | exact Gn.refl _ | refine Gn.gr ?_ _ | refine Gn.alloc ?_ _ | refine Gn.drew ?_)))⟩)
  have d2 : decide ((60 : Int) < (m.length : Int)) = false := by rw [decide_eq_false_iff_not]; omega
  go_enter Try.func3, Try.ntmps3
  go_wp2
  have hst : (∃ a b, Hi ((w.alloc (.cells Z68 27)).alloc (.cells Z68 27)) w.heap.size (pos (l.take 0)) a b) ∧ (∃ a b, Hi ((w.alloc (.cells Z68 27)).alloc (.cells Z68 27)) (w.heap.size + 1) (pos (m.take 0)) a b) :=
    ⟨⟨0, 0, (hi_new w Z68 rfl 27).grown ((Gn.refl _).alloc _)⟩, ⟨0, 0, by have := hi_new (w.alloc (.cells Z68 27)) Z68 rfl 27; rw [size_alloc] at this; exact this⟩⟩
  have HST : Hid _ := hst
  have HW0 : Hid (Gn w ((w.alloc (.cells Z68 27)).alloc (.cells Z68 27))) := ((Gn.refl _).alloc _).alloc _
  clear hst
  generalize ((w.alloc (.cells Z68 27)).alloc (.cells Z68 27)) = W0 at *
  go_loopw [13] (fun i wr => ∃ k : Nat, k ≤ l.length ∧ i = .int .i64 k ∧ (∃ a b, Hi wr w.heap.size (pos (l.take k)) a b) ∧ (∃ a b, Hi wr (w.heap.size + 1) (pos (m.take 0)) a b) ∧ Gn w wr) (fun i _ => l.length - (intOf i).toNat)
  case atStart => exact ⟨0, by omega, rfl, HST.out.1, HST.out.2, HW0.out⟩
  case round =>
    clear HST HW0
    obtain ⟨k, hk, rfl, hH, hO, hG⟩ := hrel
    have HH : Hid _ := hH
    have HOO : Hid _ := hO
    have HG : Hid _ := hG
    have hgz := hG.size
    clear hH hO hG
    by_cases hlt : k < l.length
    · have hva := IA.kept HV1.out (Kp.of_gn (fun _ => False) HG.out) (fun _ e => e.elim)
      obtain ⟨b, off, rfl, _⟩ := IA.row HV1.out (show 0 < l.length by omega)
      obtain ⟨b', off', e', hbl, hr⟩ := IA.row hva (show 0 < l.length by omega)
      cases e'
      have hbw : b < w.heap.size := by
        obtain ⟨_, _, e2, hr2⟩ := IA.row HV1.out (show 0 < l.length by omega)
        cases e2; exact hr2.1
      have cr := hr k hlt
      have hki : (k : Int) < (l.length : Int) := by omega
      have hxk := HX1.out _ (ia_mem hlt)
      have hput : ∀ W, Gn wr W → Calls Try.prog 6 #[.pointer (some ⟨w.heap.size, 0, none⟩), .int .i64 (ia l k)] W fun e w' => e = .returned (.bool (decide (0 ≤ ia l k))) ∧ (∃ a b, Hi w' w.heap.size (pos (l.take (k + 1))) a b) ∧ Kp (fun j => j = w.heap.size) W w' := fun W hg =>
        put_any w.heap.size l k W (by obtain ⟨a, b, h⟩ := HH.out; exact ⟨a, b, Hi.grown h hg⟩) hlt hxk (by omega)
      have HP : Hid _ := hput
      clear hva hr hput
      go_wp2
      go_region_held3 (fun w' => w'.cell? ⟨b, off + k, none⟩ = some (.int .i64 (ia l k)))
        (first | go_keep | exact Kp.cell KP.out (gn_cell (Gn.drew (Gn.refl wr)) cr) (by omega))
        (first | (go_at_call 6; refine Calls.mono (HP.out _ (by with_reducible (repeat (first | exact Gn.refl _ | refine Gn.gr ?_ _ | refine Gn.alloc ?_ _ | refine Gn.drew ?_)))) ?_; rintro y w1 ⟨rfl, hH1, hK1⟩; have H1 : Hid _ := hH1; have KP : Hid _ := hK1; clear hH1 hK1))
      all_goals go_wp2
      go_roundw
      case rel =>
        have K : Kp (fun j => j = w.heap.size) wr w1 := (Kp.of_gn _ (Gn.drew (Gn.refl wr))).trans KP.out
        exact ⟨k + 1, by omega, by go_num, H1.out, by obtain ⟨a, b, h⟩ := HOO.out; exact ⟨a, b, Hi.kept h K (by omega)⟩, ((Kp.of_gn _ HG.out).trans K).to_gn (fun j e => by omega)⟩
      case measure => simp [intOf]; omega
    · obtain rfl : k = l.length := by omega
      rw [List.take_length] at HH
      go_wp2
      go_loopw [14] (fun i wr => ∃ k : Nat, k ≤ m.length ∧ i = .int .i64 k ∧ (∃ a b, Hi wr w.heap.size (pos l) a b) ∧ (∃ a b, Hi wr (w.heap.size + 1) (pos (m.take k)) a b) ∧ Gn w wr) (fun i _ => m.length - (intOf i).toNat)
      case atStart => exact ⟨0, by omega, rfl, HH.out, HOO.out, HG.out⟩
      case round =>
        clear HH HOO HG hgz
        obtain ⟨k, hk, rfl, hH, hO, hG⟩ := hrel
        have HH : Hid _ := hH
        have HOO : Hid _ := hO
        have HG : Hid _ := hG
        have hgz := hG.size
        clear hH hO hG
        by_cases hlt : k < m.length
        · have hva := IA.kept HV2.out (Kp.of_gn (fun _ => False) HG.out) (fun _ e => e.elim)
          obtain ⟨b, off, rfl, hbl, hr⟩ := IA.row hva (show 0 < m.length by omega)
          have cr := hr k hlt
          have hki : (k : Int) < (m.length : Int) := by omega
          have hxk := HX2.out _ (ia_mem hlt)
          have HP : Hid _ := put_any (w.heap.size + 1) m k wr HOO.out hlt hxk (by omega)
          clear hva hr
          go_wp2_with (go_at_call 6; refine Calls.mono HP.out ?_; rintro y w1 ⟨rfl, hH1, hK1⟩; have H1 : Hid _ := hH1; have KP : Hid _ := hK1; clear hH1 hK1)
          go_roundw
          case rel => exact ⟨k + 1, by omega, by go_num, by obtain ⟨a, b, h⟩ := HH.out; exact ⟨a, b, Hi.kept h KP.out (by omega)⟩, H1.out, ((Kp.of_gn _ HG.out).trans KP.out).to_gn (fun j e => by omega)⟩
          case measure => simp [intOf]; omega
        · obtain rfl : k = m.length := by omega
          rw [List.take_length] at HOO
          have hl1 := pos_len l
          have hl2 := pos_len m
          have hadd : Calls Try.prog 7 #[.pointer (some ⟨w.heap.size, 0, none⟩), .pointer (some ⟨w.heap.size + 1, 0, none⟩)] wr fun e w' => (∃ y, e = .returned y) ∧ (∃ l1 m1, Hi w' w.heap.size (pos l ++ pos m) l1 m1) ∧ Kp (fun j => j = w.heap.size) wr w' := by
            obtain ⟨a, b, h⟩ := HH.out
            obtain ⟨a', b', h'⟩ := HOO.out
            exact add_any _ _ _ _ a b a' b' wr h h' (by omega) (by omega)
          have HA : Hid _ := hadd
          clear hadd
          have t1 : Hid (1 = 1) := (rfl : 1 = 1)
          go_wp2_with (first
            | (go_at_call 7; refine Calls.mono HA.out ?_; rintro y w1 ⟨⟨y', rfl⟩, hH1, hK1⟩; have HG1 : Hid (Gn w w1) := ((Kp.of_gn _ HG.out).trans hK1).to_gn (fun j e => by omega); have H1 : Hid _ := hH1; clear hH1 hK1)
            | (at_builtin; have _t := t1; refine wpList_append_gen rfl _ _ rfl w1.heap.size _ 0 (ints []) rfl (World.ownsRow_nil _ _ _ _) _ l.length _ l rfl rfl (IA.src (IA.kept HV1.out (Kp.of_gn (fun _ => False) HG1.out) (fun _ e => e.elim))) (by omega) (Nat.le_refl _) ?_; intro va w2 h2 hg2; have H2 : Hid _ := h2; have HG2 : Hid (Gn w1 w2) := own_far (World.ownsRow_nil w1 w1.heap.size 3 1) (Gn.refl w1) (Nat.le_refl _) hg2; have t2 : Hid (2 = 2) := (rfl : 2 = 2); clear h2 hg2 t1 _t)
            | (at_builtin; have _t := t2; refine wpList_append_gen rfl _ _ rfl w1.heap.size _ _ _ rfl H2.out _ m.length _ m rfl rfl (IA.src (IA.kept HV2.out (Kp.of_gn (fun _ => False) (Gn.trans HG1.out HG2.out)) (fun _ e => e.elim))) (by omega) (Gn.size HG2.out) ?_; intro vb w3 h3 hg3; have H3 : Hid _ := h3; have HG3 : Hid (Gn w1 w3) := own_far H2.out HG2.out (Nat.le_refl _) hg3; clear h3 hg3 t2 _t))
          have hia : IA w3 vb (l ++ m) := own_ia (base := w1.heap.size) (by
            have e1 : (l ++ m).length = 0 + l.length + m.length := by simp
            have e2 : ints (l ++ m) = (ints [] ++ ints l) ++ ints m := by simp [ints]
            rw [e1, e2]; exact H3.out)
          refine (good_any vb (l ++ m) w3 hia (by simp; omega)).mono ?_
          rintro y w4 ⟨v', rfl, hown, hg4⟩
          obtain ⟨s, hs⟩ : ∃ s, good (l ++ m) = s := ⟨_, rfl⟩
          rw [hs] at hown
          have hsrt : Srt s := by rw [← hs]; exact good_srt _
          have hperm : s.Perm (pos l ++ pos m) := by rw [← hs, ← pos_append]; exact good_perm _
          obtain ⟨L, M, hi1⟩ := H1.out
          have hi4 : Hi w4 w.heap.size s L M := (hi1.grown (Gn.trans HG3.out hg4)).perm hperm
          have hia4 := own_ia hown
          have hslen : s.length ≤ 1000 := hi4.len
          have HGA : Hid (Gn w w4) := Gn.trans HG1.out (Gn.trans HG3.out hg4)
          have HOK : Hid (Ok s) := hi4.ok
          have HI : Hid _ := hia4
          have HSRT : Hid _ := hsrt
          clear hia hs hperm hi1 hown hg4 hsrt H1 H2 H3 HG2 HG3 HH HOO HA
          obtain ⟨os, cs, rfl⟩ := hia4.shape
          by_cases h0 : s.length = 0
          · have hnil : s = [] := List.length_eq_zero_iff.1 h0
            have HE : Hid (Hi w4 w.heap.size [] L M) := by rw [hnil] at hi4; exact hi4
            have HS : Hid _ := hi4
            have dz : decide (0 < s.length) = false := by rw [decide_eq_false_iff_not]; omega
            have dz2 : decide ((0 : Int) < (s.length : Int)) = false := by rw [decide_eq_false_iff_not]; omega
            have HZ : Hid _ := h0
            clear hnil hi4 hia4 h0
            go_wp2_with (first
              | (go_at_call 9; refine (bounds_empty _ (Hi.grown HE.out (by with_reducible (repeat (first | exact Gn.refl _ | refine Gn.gr ?_ _ | refine Gn.alloc ?_ _ | refine Gn.drew ?_))))).mono ?_; rintro y w5 ⟨rfl, q9, rfl⟩)
              | (go_at_call 10; refine (part_bad _ (Hi.grown HS.out (by with_reducible (repeat (first | exact Gn.refl _ | refine Gn.gr ?_ _ | refine Gn.alloc ?_ _ | refine Gn.drew ?_)))) _ (.inl HZ.out)).mono ?_; rintro y w5 ⟨rfl, rfl⟩)
              | (go_at_call 11; refine (rpart_bad _ _ s _ (IA.kept HI.out (Kp.of_gn (fun _ => False) (by with_reducible (repeat (first | exact Gn.refl _ | refine Gn.gr ?_ _ | refine Gn.alloc ?_ _ | refine Gn.drew ?_)))) (fun _ e => e.elim)) hslen (.inl HZ.out)).mono ?_; rintro y w5 ⟨rfl, q11, rfl⟩)
              | (go_at_call 12; refine (count_is _ (Hi.grown HS.out (by with_reducible (repeat (first | exact Gn.refl _ | refine Gn.gr ?_ _ | refine Gn.alloc ?_ _ | refine Gn.drew ?_))))).mono ?_; rintro y w5 ⟨rfl, rfl⟩)
              | (go_at_call 13; refine (sum_is _ (Hi.grown HS.out (by with_reducible (repeat (first | exact Gn.refl _ | refine Gn.gr ?_ _ | refine Gn.alloc ?_ _ | refine Gn.drew ?_))))).mono ?_; rintro y w5 ⟨rfl, rfl⟩)
              | (go_at_call 14; refine (rsum_any _ _ s (IA.kept HI.out (Kp.of_gn (fun _ => False) (by with_reducible (repeat (first | exact Gn.refl _ | refine Gn.gr ?_ _ | refine Gn.alloc ?_ _ | refine Gn.drew ?_)))) (fun _ e => e.elim)) HOK.out hslen).mono ?_; rintro y w5 ⟨rfl, rfl⟩)
              | (go_at_call 15; refine (row_is _ (Hi.grown HS.out (by with_reducible (repeat (first | exact Gn.refl _ | refine Gn.gr ?_ _ | refine Gn.alloc ?_ _ | refine Gn.drew ?_)))) _).mono ?_; rintro y w5 ⟨rfl, rfl⟩)
              | (go_at_call 16; refine (rrow_any _ _ s _ (IA.kept HI.out (Kp.of_gn (fun _ => False) (by with_reducible (repeat (first | exact Gn.refl _ | refine Gn.gr ?_ _ | refine Gn.alloc ?_ _ | refine Gn.drew ?_)))) (fun _ e => e.elim)) HOK.out hslen).mono ?_; rw [rowR_eq HOK.out]; rintro y w5 ⟨rfl, rfl⟩)
              | (go_at_call 17; refine (rank_is _ (Hi.grown HS.out (by with_reducible (repeat (first | exact Gn.refl _ | refine Gn.gr ?_ _ | refine Gn.alloc ?_ _ | refine Gn.drew ?_)))) _ hn).mono ?_; rintro y w5 ⟨rfl, rfl⟩)
              | (go_at_call 18; refine (rrank_any _ _ s _ (IA.kept HI.out (Kp.of_gn (fun _ => False) (by with_reducible (repeat (first | exact Gn.refl _ | refine Gn.gr ?_ _ | refine Gn.alloc ?_ _ | refine Gn.drew ?_)))) (fun _ e => e.elim)) HOK.out hslen hn).mono ?_; rintro y w5 ⟨rfl, rfl⟩)
              | (go_at_call 5; refine (awake_any _).mono ?_; rintro y w5 ⟨rfl, q5, rfl⟩))
            all_goals first
              | omega
              | (go_ret; exact ⟨rfl, Gn.trans HGA.out (by with_reducible (repeat (first | exact Gn.refl _ | refine Gn.gr ?_ _ | refine Gn.alloc ?_ _ | refine Gn.drew ?_)))⟩)
          · have hpos : 0 < s.length := by omega
            have dz : decide (0 < s.length) = true := by rw [decide_eq_true_eq]; omega
            have dz2 : decide ((0 : Int) < (s.length : Int)) = true := by rw [decide_eq_true_eq]; omega
            obtain ⟨rfl, rfl⟩ := ends_srt HSRT.out (List.Perm.refl s) hi4.ends hpos
            obtain ⟨b', off', rfl, hbl4, hr4⟩ := IA.row hia4 hpos
            have cz := hr4 0 hpos
            simp only [Nat.add_zero] at cz
            have cl := hr4 (s.length - 1) (by omega)
            have HS : Hid _ := hi4
            clear hi4 hia4 hr4
            by_cases hv : 0 ≤ mille ∧ mille ≤ 1000
            · obtain ⟨hp0, hp1⟩ := hv
              go_wp2_with (first
                | (go_at_call 9; refine (bounds_is _ (Hi.grown HS.out (by with_reducible (repeat (first | exact Gn.refl _ | refine Gn.gr ?_ _ | refine Gn.alloc ?_ _ | refine Gn.drew ?_)))) hpos).mono ?_; rintro y w5 ⟨rfl, q9, rfl⟩)
                | (go_at_call 10; refine (part_s _ (Hi.grown HS.out (by with_reducible (repeat (first | exact Gn.refl _ | refine Gn.gr ?_ _ | refine Gn.alloc ?_ _ | refine Gn.drew ?_)))) HSRT.out _ hpos hp0 hp1).mono ?_; rintro y w5 ⟨rfl, rfl⟩)
                | (go_at_call 11; refine (rpart_any _ _ s _ (IA.kept HI.out (Kp.of_gn (fun _ => False) (by with_reducible (repeat (first | exact Gn.refl _ | refine Gn.gr ?_ _ | refine Gn.alloc ?_ _ | refine Gn.drew ?_)))) (fun _ e => e.elim)) HOK.out hslen hpos hp0 hp1).mono ?_; rintro y w5 ⟨rfl, q11, rfl⟩)
                | (go_at_call 12; refine (count_is _ (Hi.grown HS.out (by with_reducible (repeat (first | exact Gn.refl _ | refine Gn.gr ?_ _ | refine Gn.alloc ?_ _ | refine Gn.drew ?_))))).mono ?_; rintro y w5 ⟨rfl, rfl⟩)
                | (go_at_call 13; refine (sum_is _ (Hi.grown HS.out (by with_reducible (repeat (first | exact Gn.refl _ | refine Gn.gr ?_ _ | refine Gn.alloc ?_ _ | refine Gn.drew ?_))))).mono ?_; rintro y w5 ⟨rfl, rfl⟩)
                | (go_at_call 14; refine (rsum_any _ _ s (IA.kept HI.out (Kp.of_gn (fun _ => False) (by with_reducible (repeat (first | exact Gn.refl _ | refine Gn.gr ?_ _ | refine Gn.alloc ?_ _ | refine Gn.drew ?_)))) (fun _ e => e.elim)) HOK.out hslen).mono ?_; rintro y w5 ⟨rfl, rfl⟩)
                | (go_at_call 15; refine (row_is _ (Hi.grown HS.out (by with_reducible (repeat (first | exact Gn.refl _ | refine Gn.gr ?_ _ | refine Gn.alloc ?_ _ | refine Gn.drew ?_)))) _).mono ?_; rintro y w5 ⟨rfl, rfl⟩)
                | (go_at_call 16; refine (rrow_any _ _ s _ (IA.kept HI.out (Kp.of_gn (fun _ => False) (by with_reducible (repeat (first | exact Gn.refl _ | refine Gn.gr ?_ _ | refine Gn.alloc ?_ _ | refine Gn.drew ?_)))) (fun _ e => e.elim)) HOK.out hslen).mono ?_; rw [rowR_eq HOK.out]; rintro y w5 ⟨rfl, rfl⟩)
                | (go_at_call 17; refine (rank_is _ (Hi.grown HS.out (by with_reducible (repeat (first | exact Gn.refl _ | refine Gn.gr ?_ _ | refine Gn.alloc ?_ _ | refine Gn.drew ?_)))) _ hn).mono ?_; rintro y w5 ⟨rfl, rfl⟩)
                | (go_at_call 18; refine (rrank_any _ _ s _ (IA.kept HI.out (Kp.of_gn (fun _ => False) (by with_reducible (repeat (first | exact Gn.refl _ | refine Gn.gr ?_ _ | refine Gn.alloc ?_ _ | refine Gn.drew ?_)))) (fun _ e => e.elim)) HOK.out hslen hn).mono ?_; rintro y w5 ⟨rfl, rfl⟩)
                | (go_at_call 5; refine (awake_any _).mono ?_; rintro y w5 ⟨rfl, q5, rfl⟩))
              all_goals first
                | omega
                | (go_ret; exact ⟨rfl, Gn.trans HGA.out (by with_reducible (repeat (first | exact Gn.refl _ | refine Gn.gr ?_ _ | refine Gn.alloc ?_ _ | refine Gn.drew ?_)))⟩)
            · have hbad : s.length = 0 ∨ mille < 0 ∨ 1000 < mille := by omega
              clear hv
              go_wp2_with (first
                | (go_at_call 9; refine (bounds_is _ (Hi.grown HS.out (by with_reducible (repeat (first | exact Gn.refl _ | refine Gn.gr ?_ _ | refine Gn.alloc ?_ _ | refine Gn.drew ?_)))) hpos).mono ?_; rintro y w5 ⟨rfl, q9, rfl⟩)
                | (go_at_call 10; refine (part_bad _ (Hi.grown HS.out (by with_reducible (repeat (first | exact Gn.refl _ | refine Gn.gr ?_ _ | refine Gn.alloc ?_ _ | refine Gn.drew ?_)))) _ hbad).mono ?_; rintro y w5 ⟨rfl, rfl⟩)
                | (go_at_call 11; refine (rpart_bad _ _ s _ (IA.kept HI.out (Kp.of_gn (fun _ => False) (by with_reducible (repeat (first | exact Gn.refl _ | refine Gn.gr ?_ _ | refine Gn.alloc ?_ _ | refine Gn.drew ?_)))) (fun _ e => e.elim)) hslen hbad).mono ?_; rintro y w5 ⟨rfl, q11, rfl⟩)
                | (go_at_call 12; refine (count_is _ (Hi.grown HS.out (by with_reducible (repeat (first | exact Gn.refl _ | refine Gn.gr ?_ _ | refine Gn.alloc ?_ _ | refine Gn.drew ?_))))).mono ?_; rintro y w5 ⟨rfl, rfl⟩)
                | (go_at_call 13; refine (sum_is _ (Hi.grown HS.out (by with_reducible (repeat (first | exact Gn.refl _ | refine Gn.gr ?_ _ | refine Gn.alloc ?_ _ | refine Gn.drew ?_))))).mono ?_; rintro y w5 ⟨rfl, rfl⟩)
                | (go_at_call 14; refine (rsum_any _ _ s (IA.kept HI.out (Kp.of_gn (fun _ => False) (by with_reducible (repeat (first | exact Gn.refl _ | refine Gn.gr ?_ _ | refine Gn.alloc ?_ _ | refine Gn.drew ?_)))) (fun _ e => e.elim)) HOK.out hslen).mono ?_; rintro y w5 ⟨rfl, rfl⟩)
                | (go_at_call 15; refine (row_is _ (Hi.grown HS.out (by with_reducible (repeat (first | exact Gn.refl _ | refine Gn.gr ?_ _ | refine Gn.alloc ?_ _ | refine Gn.drew ?_)))) _).mono ?_; rintro y w5 ⟨rfl, rfl⟩)
                | (go_at_call 16; refine (rrow_any _ _ s _ (IA.kept HI.out (Kp.of_gn (fun _ => False) (by with_reducible (repeat (first | exact Gn.refl _ | refine Gn.gr ?_ _ | refine Gn.alloc ?_ _ | refine Gn.drew ?_)))) (fun _ e => e.elim)) HOK.out hslen).mono ?_; rw [rowR_eq HOK.out]; rintro y w5 ⟨rfl, rfl⟩)
                | (go_at_call 17; refine (rank_is _ (Hi.grown HS.out (by with_reducible (repeat (first | exact Gn.refl _ | refine Gn.gr ?_ _ | refine Gn.alloc ?_ _ | refine Gn.drew ?_)))) _ hn).mono ?_; rintro y w5 ⟨rfl, rfl⟩)
                | (go_at_call 18; refine (rrank_any _ _ s _ (IA.kept HI.out (Kp.of_gn (fun _ => False) (by with_reducible (repeat (first | exact Gn.refl _ | refine Gn.gr ?_ _ | refine Gn.alloc ?_ _ | refine Gn.drew ?_)))) (fun _ e => e.elim)) HOK.out hslen hn).mono ?_; rintro y w5 ⟨rfl, rfl⟩)
                | (go_at_call 5; refine (awake_any _).mono ?_; rintro y w5 ⟨rfl, q5, rfl⟩))
              all_goals first
                | omega
                | (go_ret; exact ⟨rfl, Gn.trans HGA.out (by with_reducible (repeat (first | exact Gn.refl _ | refine Gn.gr ?_ _ | refine Gn.alloc ?_ _ | refine Gn.drew ?_)))⟩)
end Go.Proofs.Ytggfjpfjpinhoaa
