/- awake. -/
import Derived.Test.YtdfhcjhhjjbpoaaH52
namespace Go.Proofs.Ytdfhcjhhjjbpoaa
open Go.RowKit

def ta : Tup := ⟨0, false, 0, 0, false, 0, 0, 1, 0⟩
def tb : Tup := ⟨0, false, 0, 0, false, 0, 0, 2, 0⟩
theorem ta_ok : ta.ok := by unfold Tup.ok; decide
theorem tb_ok : tb.ok := by unfold Tup.ok; decide
theorem put2_eq (p p2 : Nat) : putE 1 (⟨tb, 6, p2⟩ :: cutE tb [⟨ta, 5, p⟩]) = (ta, true, [⟨tb, 6, p2⟩]) := by simp [putE, cutE, lastT, ta, tb]
theorem pcell (w : World) : (w.alloc (.cells #[.int .i64 0, .map none, .slice none 0 0, .slice none 0 0] 53)).cell? ⟨w.heap.size, 1, none⟩ = some (.map none) := by
  unfold World.cell?
  rw [heap_alloc_new]
  rfl
theorem eq_ta (w : World) : (binOp .eql 32 ta.val ta.val).run Try.prog w = .ok (.bool true) w := by kernel_rfl
set_option maxHeartbeats 400000 in
theorem awake_any (w : World) : Calls Try.prog 5 #[] w fun e w' => e = .returned (.bool true) ∧ Gn w w' := by
  have HA : Hid (Bx ((w.alloc (.cells ta.cs 32)).alloc (.cells tb.cs 32)) w.heap.size ta) := (Bx.new w ta).kept (Kp.of_gn (fun _ => False) ((Gn.refl _).alloc _)) (fun e => e)
  have HB : Hid (Bx ((w.alloc (.cells ta.cs 32)).alloc (.cells tb.cs 32)) (w.heap.size + 1) tb) := by
    have := Bx.new (w.alloc (.cells ta.cs 32)) tb
    rw [size_alloc] at this
    exact this
  have HG : Hid (Gn w ((w.alloc (.cells ta.cs 32)).alloc (.cells tb.cs 32))) := ((Gn.refl w).alloc _).alloc _
  have HS : Hid (((w.alloc (.cells ta.cs 32)).alloc (.cells tb.cs 32)).heap.size = w.heap.size + 2) := by show _ = _; rw [size_alloc, size_alloc]
  go_enter Try.func5, Try.ntmps5
  have heq := eq_ta
  simp only [Tup.val, Tup.cs, ta] at heq
  go_upto_region 3 with (first | (go_at_call 6; refine Calls.mono (new_ok _ 1 (by omega) (by omega)) ?_; rintro _ w1 ⟨mb, rfl, h1, h2⟩; have HG1 : Hid (Gn w w1) := HG.out.trans h2; have HM1 : Hid (Mem w1 mb (fun k => w.heap.size + 2 ≤ k ∧ k < w1.heap.size) 1 [] 1) := h1.bound.mono (fun k _ e => ⟨HS.out ▸ e.1, e.2⟩) (Nat.le_refl _); have HA1 : Hid (Bx w1 w.heap.size ta) := HA.out.kept (Kp.of_gn (fun _ => False) h2) (fun e => e); have HB1 : Hid (Bx w1 (w.heap.size + 1) tb) := HB.out.kept (Kp.of_gn (fun _ => False) h2) (fun e => e); have hs1 : w.heap.size + 2 ≤ w1.heap.size := HS.out ▸ h2.size; clear h1 h2))
  go_upto_region 4 with (first | (go_at_call 14; refine Calls.mono (put_any w1 mb _ 1 [] 1 HM1.out (fun k e => e.2) (by omega) ta ta_ok 5) ?_; rintro e w2 ⟨p, he, h1, h2⟩; rw [show putE 1 (⟨ta, 5, p⟩ :: cutE ta []) = (T0, false, [⟨ta, 5, p⟩]) from rfl] at he h1; simp only [Tup.val, Tup.cs, T0] at he; subst he; have HM2 : Hid (Mem w2 mb (fun k => w.heap.size + 2 ≤ k ∧ k < w2.heap.size) 1 [⟨ta, 5, p⟩] 2) := h1.bound.mono (fun k hk e => ⟨e.1.elim (fun e => e.1) (fun e => by omega), hk⟩) (Nat.le_refl _); have HK2 : Hid (Kp (fun k => w.heap.size + 2 ≤ k) w1 w2) := h2.mono (fun k _ e => e.1); have HA2 : Hid (Bx w2 w.heap.size ta) := HA1.out.kept HK2.out (fun e => by omega); have HB2 : Hid (Bx w2 (w.heap.size + 1) tb) := HB1.out.kept HK2.out (fun e => by omega); have HG2 : Hid (Gn w w2) := ((Kp.of_gn (fun k => w.heap.size ≤ k) HG1.out).trans (HK2.out.mono (fun k _ e => by omega))).to_gn (fun k e => e); have hs2 : w1.heap.size ≤ w2.heap.size := h2.size; clear h1 h2) | (refine wpList_load_box rfl _ rfl rfl HA1.out ?_))
  have hg2 : Gn w2 (w2.alloc (.cells #[.int .i64 0, .bool false, .int .u64 0, .int .u64 0, .bool false, .int .u64 0, .int .u64 0, .int .i64 0, .int .i64 0] 32)) := (Gn.refl w2).alloc _
  have hz2 := size_alloc w2 (.cells #[.int .i64 0, .bool false, .int .u64 0, .int .u64 0, .bool false, .int .u64 0, .int .u64 0, .int .i64 0, .int .i64 0] 32)
  generalize w2.alloc (.cells #[.int .i64 0, .bool false, .int .u64 0, .int .u64 0, .bool false, .int .u64 0, .int .u64 0, .int .i64 0, .int .i64 0] 32) = w2b at *
  have HM2b : Hid (Mem w2b mb (fun k => w.heap.size + 2 ≤ k ∧ k < w2.heap.size) 1 [⟨ta, 5, p⟩] 2) := HM2.out.grown hg2
  have HA2b : Hid (Bx w2b w.heap.size ta) := HA2.out.kept (Kp.of_gn (fun _ => False) hg2) (fun e => e)
  have HB2b : Hid (Bx w2b (w.heap.size + 1) tb) := HB2.out.kept (Kp.of_gn (fun _ => False) hg2) (fun e => e)
  have HG2b : Hid (Gn w w2b) := HG2.out.trans hg2
  clear hg2 HA1 HB1 HM1 HG1 HM2 HK2 HA2 HB2 HG2 HA HB
  go_upto_region 5 with (first | (go_at_call 14; refine Calls.mono (put_any w2b mb _ 1 [⟨ta, 5, p⟩] 2 HM2b.out (fun k e => by (have := e.2); omega) (by omega) tb tb_ok 6) ?_; rintro e w3 ⟨p2, he, h1, h2⟩; rw [put2_eq] at he h1; simp only [Tup.val, Tup.cs, ta] at he; subst he; have HK3 : Hid (Kp (fun k => w.heap.size + 2 ≤ k) w2b w3) := h2.mono (fun k _ e => e.1); have hs3 : w2b.heap.size ≤ w3.heap.size := h2.size; have HM3 : Hid (Mem w3 mb (fun k => w.heap.size + 2 ≤ k ∧ k < w3.heap.size) 1 [⟨tb, 6, p2⟩] 3) := h1.bound.mono (fun k hk e => ⟨e.1.elim (fun e => e.1) (fun e => by omega), hk⟩) (Nat.le_refl _); have HA3 : Hid (Bx w3 w.heap.size ta) := HA2b.out.kept HK3.out (fun e => by omega); have HB3 : Hid (Bx w3 (w.heap.size + 1) tb) := HB2b.out.kept HK3.out (fun e => by omega); have HG3 : Hid (Gn w w3) := ((Kp.of_gn (fun k => w.heap.size ≤ k) HG2b.out).trans (HK3.out.mono (fun k _ e => by omega))).to_gn (fun k e => e); clear h1 h2) | (refine wpList_load_box rfl _ rfl rfl HB2b.out ?_))
  have hg3 : Gn w3 (w3.alloc (.cells #[.int .i64 0, .bool false, .int .u64 0, .int .u64 0, .bool false, .int .u64 0, .int .u64 0, .int .i64 1, .int .i64 0] 32)) := (Gn.refl w3).alloc _
  have hz3 := size_alloc w3 (.cells #[.int .i64 0, .bool false, .int .u64 0, .int .u64 0, .bool false, .int .u64 0, .int .u64 0, .int .i64 1, .int .i64 0] 32)
  have HX3b : Hid (Bx (w3.alloc (.cells #[.int .i64 0, .bool false, .int .u64 0, .int .u64 0, .bool false, .int .u64 0, .int .u64 0, .int .i64 1, .int .i64 0] 32)) w3.heap.size ta) := Bx.new w3 ta
  generalize w3.alloc (.cells #[.int .i64 0, .bool false, .int .u64 0, .int .u64 0, .bool false, .int .u64 0, .int .u64 0, .int .i64 1, .int .i64 0] 32) = w3b at *
  have HM3b : Hid (Mem w3b mb (fun k => w.heap.size + 2 ≤ k ∧ k < w3.heap.size) 1 [⟨tb, 6, p2⟩] 3) := HM3.out.grown hg3
  have HA3b : Hid (Bx w3b w.heap.size ta) := HA3.out.kept (Kp.of_gn (fun _ => False) hg3) (fun e => e)
  have HB3b : Hid (Bx w3b (w.heap.size + 1) tb) := HB3.out.kept (Kp.of_gn (fun _ => False) hg3) (fun e => e)
  have HG3b : Hid (Gn w w3b) := HG3.out.trans hg3
  clear hg3 HM2b HA2b HB2b HG2b HK3 HM3 HA3 HB3 HG3
  go_upto_region 8 with (first | (go_at_call 8; refine Calls.mono (get_some w3b mb _ 1 [⟨tb, 6, p2⟩] 3 HM3b.out (by omega) tb tb_ok ⟨tb, 6, p2⟩ rfl) ?_; rintro e w4 ⟨rfl, h1, h2⟩; have HX4 : Hid (Bx w4 w3.heap.size ta) := HX3b.out.kept h2 (fun e => by (have := e.2); omega); have HK4 : Hid (Kp (fun k => w.heap.size + 2 ≤ k) w3b w4) := h2.mono (fun k _ e => e.1); have HA4 : Hid (Bx w4 w.heap.size ta) := HA3b.out.kept HK4.out (fun e => by omega); have HG4 : Hid (Gn w w4) := ((Kp.of_gn (fun k => w.heap.size ≤ k) HG3b.out).trans (HK4.out.mono (fun k _ e => by omega))).to_gn (fun k e => e); clear h1 h2) | (refine wpList_load_box rfl _ rfl rfl HB3b.out ?_))
  have hg4 : Gn w4 (w4.alloc (.cells #[.int .i64 0, .map none, .slice none 0 0, .slice none 0 0] 53)) := (Gn.refl w4).alloc _
  have hz4 := size_alloc w4 (.cells #[.int .i64 0, .map none, .slice none 0 0, .slice none 0 0] 53)
  have HP4b : Hid ((w4.alloc (.cells #[.int .i64 0, .map none, .slice none 0 0, .slice none 0 0] 53)).cell? ⟨w4.heap.size, 1, none⟩ = some (.map none)) := pcell w4
  generalize w4.alloc (.cells #[.int .i64 0, .map none, .slice none 0 0, .slice none 0 0] 53) = w4b at *
  have HA4b : Hid (Bx w4b w.heap.size ta) := HA4.out.kept (Kp.of_gn (fun _ => False) hg4) (fun e => e)
  have HX4b : Hid (Bx w4b w3.heap.size ta) := HX4.out.kept (Kp.of_gn (fun _ => False) hg4) (fun e => e)
  have HG4b : Hid (Gn w w4b) := HG4.out.trans hg4
  clear hg4 HX3b HM3b HA3b HB3b HG3b HX4 HK4 HA4 HG4
  go_upto_region 9 with (first | (go_at_call 14; refine Calls.mono (nil_put _ ta 1) ?_; rintro e w5 ⟨he, h2⟩; simp only [Tup.val, Tup.cs, T0] at he; subst he; have HG5 : Hid (Gn w4b w5) := h2; clear h2) | (refine wpList_load_box rfl _ rfl rfl HA4b.out ?_))
  have hg5 : Gn w5 (w5.alloc (.cells #[.int .i64 0, .bool false, .int .u64 0, .int .u64 0, .bool false, .int .u64 0, .int .u64 0, .int .i64 0, .int .i64 0] 32)) := (Gn.refl w5).alloc _
  generalize w5.alloc (.cells #[.int .i64 0, .bool false, .int .u64 0, .int .u64 0, .bool false, .int .u64 0, .int .u64 0, .int .i64 0, .int .i64 0] 32) = w5b at *
  have HG45 : Hid (Gn w4b w5b) := HG5.out.trans hg5
  have HP5 : Hid (w5b.cell? ⟨w4.heap.size, 1, none⟩ = some (.map none)) := gn_cell HG45.out HP4b.out
  have HA5b : Hid (Bx w5b w.heap.size ta) := HA4b.out.kept (Kp.of_gn (fun _ => False) HG45.out) (fun e => e)
  have HX5b : Hid (Bx w5b w3.heap.size ta) := HX4b.out.kept (Kp.of_gn (fun _ => False) HG45.out) (fun e => e)
  have HG5b : Hid (Gn w w5b) := HG4b.out.trans HG45.out
  clear hg5 HG5 HP4b HA4b HX4b HG4b HG45
  go_upto_region 10 with (first | (go_at_call 8; refine Calls.mono (plain_get w5b w4.heap.size ta HP5.out) ?_; rintro e w6 ⟨rfl, h2⟩; have HG6 : Hid (Gn w5b w6) := h2; clear h2) | (refine wpList_load_box rfl _ rfl rfl HA5b.out ?_))
  have HA6 : Hid (Bx w6 w.heap.size ta) := HA5b.out.kept (Kp.of_gn (fun _ => False) HG6.out) (fun e => e)
  have HX6 : Hid (Bx w6 w3.heap.size ta) := HX5b.out.kept (Kp.of_gn (fun _ => False) HG6.out) (fun e => e)
  have HP6 : Hid (w6.cell? ⟨w4.heap.size, 1, none⟩ = some (.map none)) := gn_cell HG6.out HP5.out
  have HGw6 : Hid (Gn w w6) := HG5b.out.trans HG6.out
  obtain ⟨b0, b1, b2, b3, b4, b5, b6, b7, b8⟩ := HA6.out.cells
  obtain ⟨d0, d1, d2, d3, d4, d5, d6, d7, d8⟩ := HX6.out.cells
  simp only [ta] at b0 b1 b2 b3 b4 b5 b6 b7 b8 d0 d1 d2 d3 d4 d5 d6 d7 d8
  clear HA5b HX5b HP5 HG5b HG6 HA6 HX6
  go_wp2_with (first | (go_at_call 12; refine Calls.mono (nil_cut _ ta) ?_; rintro e w7 ⟨rfl, h2⟩; have HG7 : Hid (Gn w6 w7) := h2; clear h2) | (go_at_call 16; refine Calls.mono (plain_len _ w4.heap.size (gn_cell HG7.out HP6.out)) ?_; rintro _ _ ⟨rfl, rfl⟩) | (go_at_call 18; refine Calls.mono (nil_list _) ?_; rintro _ _ ⟨rfl, rfl⟩) | (go_at_call 6; refine Calls.mono (new_bad _ (-1) (.inl (by omega))) ?_; rintro _ _ ⟨rfl, rfl⟩))
  go_ret
  exact ⟨rfl, HGw6.out.trans HG7.out⟩
end Go.Proofs.Ytdfhcjhhjjbpoaa
