/- The walk of the law HistParts. -/
import Derived.Test.YtggfjpfjpinhoaaAwake
namespace Go.Proofs.Ytggfjpfjpinhoaa
open Go.RowKit

/-- A slice value reads as a list of numbers. -/
def ia (xs : List Int) (k : Nat) : Int := xs.getD k 0
def Ir (w : World) (b off : Nat) (xs : List Int) : Prop := b < w.heap.size ∧ ∀ k, k < xs.length → w.cell? ⟨b, off + k, none⟩ = some (.int .i64 (ia xs k))
def IA (w : World) (v : Value) (xs : List Int) : Prop :=
  (xs = [] ∧ ∃ o c, v = .slice o 0 c) ∨ ∃ b off cap, v = .slice (some ⟨b, off, none⟩) xs.length cap ∧ Ir w b off xs
theorem IA.shape {w : World} {v : Value} {l : List Int} (h : IA w v l) : ∃ o c, v = .slice o l.length c := by
  rcases h with ⟨rfl, o, c, rfl⟩ | ⟨b, off, cap, rfl, _⟩ <;> exact ⟨_, _, rfl⟩
theorem Ir.kept {S : Nat → Prop} {w w' : World} {b off : Nat} {xs : List Int} (h : Ir w b off xs) (hk : Kp S w w') (hs : ¬ S b) : Ir w' b off xs :=
  ⟨by have := hk.size; have := h.1; omega, fun k hl => hk.cell (h.2 k hl) hs⟩
theorem IA.row {w : World} {o : Option Addr} {n c : Nat} {l : List Int} (h : IA w (.slice o n c) l) (h0 : 0 < l.length) : ∃ b off, o = some ⟨b, off, none⟩ ∧ Ir w b off l := by
  rcases h with ⟨rfl, _⟩ | ⟨b, off, cap, e, hc⟩
  · simp at h0
  · cases e
    exact ⟨b, off, rfl, hc⟩
theorem IA.kept {S : Nat → Prop} {w w' : World} {v : Value} {xs : List Int} (h : IA w v xs) (hk : Kp S w w') (hs : ∀ j, S j → w.heap.size ≤ j) : IA w' v xs := by
  rcases h with h | ⟨b, off, cap, e, hc⟩
  · exact .inl h
  · exact .inr ⟨b, off, cap, e, hc.kept hk (fun e => by have := hs _ e; have := hc.1; omega)⟩
theorem ia_mem {xs : List Int} {k : Nat} (h : k < xs.length) : ia xs k ∈ xs := by
  unfold ia
  rw [List.getD_eq_getElem?_getD, List.getElem?_eq_getElem h, Option.getD_some]
  exact List.getElem_mem h
theorem take_ia {xs : List Int} {k : Nat} (h : k < xs.length) : xs.take (k + 1) = xs.take k ++ [ia xs k] := by
  rw [List.take_succ_eq_append_getElem h]
  unfold ia
  rw [List.getD_eq_getElem?_getD, List.getElem?_eq_getElem h, Option.getD_some]
theorem bW_snoc (xs : List Int) (x : Int) (k : Nat) : bW (xs ++ [x]) k = bW xs k + if wd x < k then 1 else 0 := by
  simp only [bW, List.countP_append, List.countP_singleton]
  by_cases h : wd x < k <;> simp [h]

theorem row_monoI {xs : List Int} {a a' : Int} {k k' : Nat} (h1 : (bW xs k : Int) ≤ a) (haa : a ≤ a') (h4 : a' < (bW xs (k' + 1) : Int)) : k ≤ k' := by
  rcases Nat.lt_or_ge k' k with h | h
  · have := bW_mono xs (show k' + 1 ≤ k by omega); omega
  · exact h

set_option maxHeartbeats 4000000 in
set_option maxRecDepth 100000 in
theorem parts_walk (v : Value) (xs : List Int) (p0 q0 : Int) (w : World) (hv : IA w v xs) (hm : xs.length ≤ maxLen) (hx : ∀ x ∈ xs, x ≤ 9223372036854775807) (hp : 0 ≤ p0 ∧ p0 ≤ 65535) (hq : 0 ≤ q0 ∧ q0 ≤ 65535) :
    Calls Try.prog 4 #[v, .int .u16 p0, .int .u16 q0] w fun e w' => e = .returned (.bool true) ∧ Gn w w' := by
  obtain ⟨o, c, rfl⟩ := hv.shape
  have HV : Hid _ := hv
  have HX : Hid _ := hx
  unfold maxLen at hm
  have hz := zero27
  clear hv hx
  by_cases a1 : 60 < xs.length
  · have d1 : decide ((60 : Int) < (xs.length : Int)) = true := by rw [decide_eq_true_eq]; omega
    go_enter Try.func4, Try.ntmps4
    go_wp2_with (first | (go_at_call 5; refine (awake_any _).mono ?_; rintro y w' ⟨rfl, q, rfl⟩))
    all_goals first
      | omega
      | (go_ret; exact ⟨rfl, (by with_reducible (repeat (first | exact Gn.refl _ | refine Gn.gr ?_ _ | refine Gn.alloc ?_ _ | refine Gn.drew ?_)))⟩)
  have d1 : decide ((60 : Int) < (xs.length : Int)) = false := by rw [decide_eq_false_iff_not]; omega
  by_cases a2 : xs.length = 0
  · have d2 : ((xs.length : Int) == 0) = true := by simp; exact List.length_eq_zero_iff.1 a2
    clear a2
    go_enter Try.func4, Try.ntmps4
    go_wp2_with (first | (go_at_call 5; refine (awake_any _).mono ?_; rintro y w' ⟨rfl, q, rfl⟩))
    all_goals first
      | omega
      | (go_ret; exact ⟨rfl, (by with_reducible (repeat (first | exact Gn.refl _ | refine Gn.gr ?_ _ | refine Gn.alloc ?_ _ | refine Gn.drew ?_)))⟩)
  have d2 : ((xs.length : Int) == 0) = false := by simp; intro h; exact a2 (by rw [h]; rfl)
  obtain ⟨b, off, rfl, hr⟩ := IA.row HV.out (by omega)
  have HR : Hid _ := hr
  have hbl := hr.1
  clear hr HV
  go_enter Try.func4, Try.ntmps4
  go_wp2
  have hst : Hi (w.alloc (.cells Z68 27)) w.heap.size [] 0 0 := hi_new _ Z68 rfl _
  have HST : Hid _ := hst
  clear hst
  go_loopw [8] (fun i wr => ∃ k : Nat, k ≤ xs.length ∧ i = .int .i64 k ∧ (∃ l m, Hi wr w.heap.size (xs.take k) l m) ∧ Kp (fun j => j = w.heap.size) (w.alloc (.cells Z68 27)) wr) (fun i _ => xs.length - (intOf i).toNat)
  case atStart => exact ⟨0, by omega, rfl, ⟨_, _, HST.out⟩, Kp.refl _ _⟩
  case round =>
    clear HST
    obtain ⟨k, hk, rfl, ⟨l, m, hH⟩, hK⟩ := hrel
    have hKw : Kp (fun j => j = w.heap.size) w wr := (Kp.of_gn _ ((Gn.refl w).alloc _)).trans hK
    have hGw : Gn w wr := hKw.to_gn (fun j e => by omega)
    have hrr := (show Ir w b off xs from HR.out).kept hKw (by omega)
    have HK : Hid _ := hKw
    have HK0 : Hid _ := hK
    have HG : Hid _ := hGw
    clear hKw hGw hK
    by_cases hlt : k < xs.length
    · have cr := hrr.2 k hlt
      have hbr := hrr.1
      have hxk := HX.out _ (ia_mem hlt)
      have hki : (k : Int) < (xs.length : Int) := by omega
      have HH : Hid _ := hH
      have htl : (xs.take k).length ≤ k := List.length_take_le _ _
      clear hrr hH
      by_cases hneg : ia xs k < 0
      · go_wp2_with (first | (go_at_call 5; refine (awake_any _).mono ?_; rintro y w' ⟨rfl, q, rfl⟩))
        go_ret
        exact ⟨rfl, Gn.gr HG.out _⟩
      · have hnn : 0 ≤ ia xs k := by omega
        go_wp2_with (first | (go_at_call 6; refine (put_is _ (xs.take k) _ _ (ia xs k) _ HH.out hnn hxk (by omega)).mono ?_; rintro y w1 ⟨rfl, hH1, hK1⟩; have H1 : Hid _ := hH1; have K1 : Hid _ := hK1; clear hH1 hK1))
        go_roundw
        case rel => exact ⟨k + 1, by omega, by go_num, by rw [take_ia hlt]; exact H1.out, (show Kp (fun j => j = w.heap.size) _ wr from HK0.out).trans K1.out⟩
        case measure => simp [intOf]; omega
    · obtain rfl : k = xs.length := by omega
      rw [List.take_length] at hH
      have HH : Hid _ := hH
      have HRR : Hid _ := hrr
      have hlen := hH.len
      have h64 := bW_64 hH.ok
      have HOK : Hid _ := hH.ok
      have H64 : Hid _ := h64
      clear hH hrr h64 HK0
      go_wp2
      go_loop [9, 10] (fun s i => ∃ k : Nat, k ≤ 64 ∧ i = .int .i64 k ∧ s = .int .i64 (bW xs k : Int)) (fun _ i => 64 - (intOf i).toNat)
      case atStart => exact ⟨0, by omega, rfl, by rw [bW_zero]; rfl⟩
      case round =>
        obtain ⟨k, hk, rfl, rfl⟩ := hrel
        by_cases hlt : k < 64
        · have e1 : Hid (rowI xs (k : Int) = (cW xs k : Int)) := by show rowI xs k = _; unfold rowI; rw [if_pos (by omega), Int.toNat_natCast]
          have b1 := bW_le xs k
          have b2 := cW_le xs k
          have b3 : Hid _ := bW_succ xs k
          have hki : (k : Int) < 64 := by omega
          go_wp2_with (go_at_call 15; refine (row_is _ HH.out _).mono ?_; rw [e1.out]; rintro e w' ⟨rfl, rfl⟩)
          go_round
          case rel => exact ⟨k + 1, by omega, by go_num, by rw [b3.out]; go_num⟩
          case measure => simp [intOf]; omega
        · obtain rfl : k = 64 := by omega
          rw [H64.out]
          have hp1 : 0 ≤ p0 % 1001 ∧ p0 % 1001 ≤ 1000 := by omega
          have hpart := part_is _ HH.out (p0 % 1001) (by omega) hp1.1 hp1.2
          have HP : Hid _ := hpart
          clear hpart
          go_wp2_with (go_at_call 10; refine Calls.mono HP.out ?_; rintro e w' ⟨kk, hin, rfl, rfl⟩; have hlh := lo_hi kk; have HIN : Hid _ := hin; clear hin)
          clear HP
          have hk6 := HIN.out.1
          go_loop [16, 17, 18] (fun s t i => ∃ k : Nat, k ≤ xs.length ∧ i = .int .i64 k ∧ s = .int .i64 (cW (xs.take k) kk : Int) ∧ t = .int .i64 (bW (xs.take k) kk : Int)) (fun _ _ i => xs.length - (intOf i).toNat)
          case atStart => exact ⟨0, by omega, rfl, by simp [cW], by simp [bW]⟩
          case round =>
            obtain ⟨k, hk, rfl, rfl, rfl⟩ := hrel
            by_cases hlt : k < xs.length
            · have cr := HRR.out.2 k hlt
              have hki : (k : Int) < (xs.length : Int) := by omega
              have hx1 := HOK.out _ (ia_mem hlt)
              obtain ⟨r1, r2⟩ := in_row (k := kk) hx1.1 (show ia xs k < 18446744073709551616 by omega)
              have R1 : Hid _ := r1
              have R2 : Hid _ := r2
              have b1 := cW_le (xs.take k) kk
              have b2 := bW_le (xs.take k) kk
              have b3 : (xs.take k).length ≤ k := List.length_take_le _ _
              have S1 : Hid _ := cW_snoc (xs.take k) (ia xs k) kk
              have S2 : Hid _ := bW_snoc (xs.take k) (ia xs k) kk
              clear r1 r2
              by_cases hlo : ia xs k < loK kk
              · have e1 : wd (ia xs k) < kk := R1.out.1 hlo
                have g1 : decide (loK kk ≤ ia xs k) = false := by rw [decide_eq_false_iff_not]; omega
                have g2 : decide (ia xs k < loK kk) = true := by rw [decide_eq_true_eq]; omega
                go_wp2
                go_round
                case rel => exact ⟨k + 1, by omega, by go_num, by rw [take_ia hlt, S1.out, if_neg (by omega)]; go_num, by rw [take_ia hlt, S2.out, if_pos e1]; go_num⟩
                case measure => simp [intOf]; omega
              · have g1 : decide (loK kk ≤ ia xs k) = true := by rw [decide_eq_true_eq]; omega
                have g2 : decide (ia xs k < loK kk) = false := by rw [decide_eq_false_iff_not]; omega
                by_cases hhi : ia xs k ≤ hiK kk
                · have e1 : wd (ia xs k) = kk := R2.out.1 ⟨by omega, hhi⟩
                  have E1 : Hid _ := e1
                  clear e1
                  have g3 : decide (ia xs k ≤ hiK kk) = true := by rw [decide_eq_true_eq]; omega
                  go_wp2
                  go_round
                  case rel => exact ⟨k + 1, by omega, by go_num, by rw [take_ia hlt, S1.out, if_pos E1.out.symm]; go_num, by rw [take_ia hlt, S2.out, if_neg (by have := E1.out; omega)]; go_num⟩
                  case measure => simp [intOf]; omega
                · have e1 : ¬ wd (ia xs k) = kk := fun e => hhi (R2.out.2 e).2
                  have e2 : ¬ wd (ia xs k) < kk := fun e => hlo (R1.out.2 e)
                  have g3 : decide (ia xs k ≤ hiK kk) = false := by rw [decide_eq_false_iff_not]; omega
                  go_wp2
                  go_round
                  case rel => exact ⟨k + 1, by omega, by go_num, by rw [take_ia hlt, S1.out, if_neg (fun e => e1 e.symm)]; go_num, by rw [take_ia hlt, S2.out, if_neg e2]; go_num⟩
                  case measure => simp [intOf]; omega
            · obtain rfl : k = xs.length := by omega
              rw [List.take_length]
              obtain ⟨n1, n2⟩ := HIN.out.2
              have n3 := bW_succ xs kk
              have n4 := cW_le xs kk
              have n5 := bW_le xs kk
              obtain ⟨pl, hpl⟩ : ∃ pl, place xs.length (p0 % 1001) = pl := ⟨_, rfl⟩
              obtain ⟨m1, m2, m3, m4⟩ := place_bd (n := xs.length) (by omega) hp1.1 hp1.2
              have hpl' : p0 % 1001 * ((xs.length : Int) - 1) / 1000 = pl := hpl
              rw [hpl] at n1 n2 m3 m4
              have HPL : Hid _ := hpl
              have n6 : pl < (bW xs kk : Int) + (cW xs kk : Int) := by omega
              have g1 : decide (pl < (bW xs kk : Int)) = false := by rw [decide_eq_false_iff_not]; omega
              have g2 : decide ((bW xs kk : Int) + (cW xs kk : Int) ≤ pl) = false := by rw [decide_eq_false_iff_not]; omega
              have N3 : Hid _ := n3
              have RK : Hid (rankI xs (loK kk) = (bW xs kk : Int)) := by show rankI xs (loK kk) = _; unfold rankI; rw [if_pos (by have := lo_mono (Nat.zero_le kk); rw [loK_zero] at this; exact this), wd_lo (by omega)]
              have hlb : loK kk ≤ 9223372036854775807 := by
                have : 2 ^ kk ≤ 2 ^ 63 := Nat.pow_le_pow_right (by omega) (by omega)
                have h3 : (2 : Nat) ^ 63 = 9223372036854775808 := by decide
                have := lo_hi kk
                unfold hiK at *; omega
              clear n3 hpl n1 n2
              obtain ⟨qq, hqq⟩ : ∃ qq, p0 % 1001 + q0 % 1001 = qq := ⟨_, rfl⟩
              have hq0 : p0 % 1001 ≤ qq := by omega
              have hq9 : qq ≤ 2000 := by omega
              by_cases hqk : qq ≤ 1000
              · have g5 : decide (qq ≤ 1000) = true := by rw [decide_eq_true_eq]; exact hqk
                have HP2 : Hid _ := part_is _ HH.out qq (by omega) (by omega) hqk
                have HMO : Hid _ := place_mono (n := xs.length) (by omega) hq0
                go_wp2_with (first
                  | (go_at_call 17; refine (rank_is _ HH.out _ hlb).mono ?_; rw [RK.out]; rintro e w' ⟨rfl, rfl⟩)
                  | (go_at_call 10; refine Calls.mono HP2.out ?_; rintro e w' ⟨k2, ⟨h2a, h2b, h2c⟩, rfl, rfl⟩; have hkk := row_monoI HIN.out.2.1 HMO.out h2c; have g6 := decide_eq_true (lo_mono hkk); have g7 := decide_eq_true (hi_mono hkk); clear h2a h2b h2c)
                  | (go_at_call 5; refine (awake_any _).mono ?_; rintro y w' ⟨rfl, q, rfl⟩))
                all_goals first
                  | omega
                  | (go_ret; exact ⟨rfl, Gn.gr HG.out _⟩)
              · have g5 : decide (qq ≤ 1000) = false := by rw [decide_eq_false_iff_not]; exact hqk
                have HP2 : Hid _ := part_bad _ HH.out qq (.inr (.inr (by omega)))
                go_wp2_with (first
                  | (go_at_call 17; refine (rank_is _ HH.out _ hlb).mono ?_; rw [RK.out]; rintro e w' ⟨rfl, rfl⟩)
                  | (go_at_call 10; refine Calls.mono HP2.out ?_; rintro e w' ⟨rfl, rfl⟩)
                  | (go_at_call 5; refine (awake_any _).mono ?_; rintro y w' ⟨rfl, q, rfl⟩))
                all_goals first
                  | omega
                  | (go_ret; exact ⟨rfl, Gn.gr HG.out _⟩)
end Go.Proofs.Ytggfjpfjpinhoaa
