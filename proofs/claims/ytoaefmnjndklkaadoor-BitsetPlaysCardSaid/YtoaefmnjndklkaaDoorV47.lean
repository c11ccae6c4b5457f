/- New; Union, Meet, Less. -/
import Derived.Test.YtoaefmnjndklkaaDoorU47
import Derived.Test.YtoaefmnjndklkaaDoorMixZ
namespace Go.Proofs.YtoaefmnjndklkaaDoor
open Go.RowKit

theorem made_words (n : Nat) : (madeCells (Value.int .u64 0).cells (n * 1)).toList = wds (List.replicate n 0) := by
  have e : (Value.int IntKind.u64 0).cells = #[.int .u64 0] := by kernel_rfl
  rw [e, Nat.mul_one]
  unfold madeCells wds
  apply List.ext_getElem?
  intro i
  simp only [Array.toList_map, Array.toList_range, List.getElem?_map, List.map_replicate, List.getElem?_replicate, List.getElem?_range']
  by_cases h : i < n
  · rw [List.getElem?_range h, if_pos h]
    have : i % #[Value.int IntKind.u64 0].size = 0 := Nat.mod_one i
    simp only [Option.map_some, this]
    rfl
  · rw [List.getElem?_eq_none (by simp; omega), if_neg h]
    rfl
theorem new_ok (w : World) (n : Nat) (h1 : n ≤ 4096) :
    Calls Tryd.prog 6 #[.int .i64 (n : Int)] w fun e w' => ∃ sb, e = .returned (.pointer (some ⟨sb, 0, none⟩)) ∧ w.heap.size ≤ sb ∧ Gn w w' ∧ ∃ g, ST w' sb g n (fun _ => false) ∧ w.heap.size ≤ g := by
  have h0 : ¬ (n : Int) < 0 := by omega
  have h2 : ¬ (4096 : Int) < (n : Int) := by omega
  obtain ⟨i0, hi0, hz0, hz1, hz2⟩ := info_parts info46
  obtain ⟨L, hL⟩ : ∃ L, n / 64 + 1 = L := ⟨_, rfl⟩
  have q1 : (n : Int) / 64 + 1 = (L : Int) := by omega
  have hL65 : L ≤ 65 := by omega
  have hby : i0.bytes * L ≤ 281474976710656 := by rw [hz2]; omega
  have hml : L ≤ maxLen := by unfold maxLen; omega
  have HL : Hid (n / 64 + 1 = L) := hL
  clear hL
  go_enter Tryd.func6, Tryd.ntmps6
  go_wp2_with (at_make; refine wpList_make_full _ rfl _ _ _ rfl 0 46 i0 (.int .u64 0) 1 Tryd.underlying43 hi0 hz0 hz1 .i64 .i64 _ _ L rfl rfl rfl rfl hby hml (Nat.zero_le _) ?_; intro w2 h1 h2; rw [made_words] at h1; have H1 : Hid (w2.ownsRow 0 46 1 (.slice (some ⟨w.heap.size, 0, none⟩) L L) L (wds (List.replicate L 0))) := h1; have H2 : Hid (w.grownBy w2 none) := h2; clear h1 h2)
  go_ret
  have hk : Kp (fun _ => False) w w2 := Kp.of_gb H2.out (fun k e => by cases e)
  have hg0 : Gn w w2 := hk.to_gn (fun k e => e.elim)
  have hgl : w.heap.size < w2.heap.size := (H1.out.lt _ rfl).2
  refine ⟨w2.heap.size, rfl, by omega, hg0.alloc _, w.heap.size, ⟨L, List.replicate L 0, ?_, ?_, ?_, fun i hi => ⟨?_, fun j hj => ?_⟩, fun j hj => (by cases hj), by omega⟩, Nat.le_refl _⟩
  · rw [HL.out]; exact heap_alloc_new _ _
  · rw [HL.out]; exact own_gn H1.out ((Gn.refl _).alloc _)
  · rw [HL.out]; simp
  · unfold wn; rw [List.getElem?_replicate]; split <;> simp
  · unfold wn; rw [List.getElem?_replicate]; split <;> simp
/-- v is a row of words, in blocks from base on. -/
def WR (w : World) (base : Nat) (v : Value) (ws : List Nat) : Prop := w.ownsRow 0 46 1 v ws.length (wds ws) ∧ ∀ k, v.ownBlock = some k → base ≤ k
theorem WR.gn {w w' : World} {base : Nat} {v : Value} {ws : List Nat} (h : WR w base v ws) (hg : Gn w w') : WR w' base v ws := ⟨own_gn h.1 hg, h.2⟩
theorem one_word (w : World) (x : Nat) (k : Nat) (hk : k < 1) : (w.alloc (.cells #[.int .u64 (x : Nat)] 46)).cell? ⟨w.heap.size, k, none⟩ = [Value.int .u64 (x : Nat)][k]? := by
  unfold World.cell?
  rw [heap_alloc_new]
  simp
/-- append of one word. -/
theorem wpList_append_wd {w : World} {ops : Array Oper} {rest : List Oper} {o : Oper} {a : Act} {Q : Exit → Act → World → Prop} (hgd : o.guard = none) (s x : Operand)
    (ho : o.op = .call { callee := .builtin .append, args := #[s, x], argTypes := #[43, 43] }) {w0 : World} (base : Nat) (v : Value) (l : List Nat) (n : Nat) (hs : a.eval s = v) (hown : WR w base v l) (hw : w0.alloc (.cells #[.int .u64 (n : Nat)] 46) = w) (hx : a.eval x = .slice (some ⟨w0.heap.size, 0, none⟩) 1 1) (hb : base ≤ w0.heap.size) (hbd : l.length ≤ 1000)
    (h : ∀ v' w', WR w' base v' (l ++ [n]) → (∀ b, b.heap.size ≤ base → Gn b w0 → Gn b w') → wpList Tryd.prog ops Q rest (a.put o.dst v') w') : wpList Tryd.prog ops Q (o :: rest) a w := by
  subst hw
  refine wpList_append_row hgd s x 43 46 (.int .u64 0) 1 8 Tryd.underlying43 info46 rfl (by omega) ho v l.length (wds l) hs hown.1 w0.heap.size [.int .u64 (n : Nat)] hx rfl (one_word w0 n) (by simp [Value.oneCell']) (by omega) (by omega) ?_
  intro v' w' h1 h2 h3
  refine h v' w' ⟨?_, ?_⟩ (fun b hbb hgn => (hgn.alloc _).grown h2 (fun k e => Nat.le_trans hbb (hown.2 k e)))
  · have e1 : (l ++ [n]).length = l.length + 1 := by simp
    have e2 : wds (l ++ [n]) = wds l ++ [.int .u64 (n : Nat)] := by simp [wds]
    rw [e1, e2]; exact h1
  · intro k e
    rcases h3 with h3 | h3
    · rw [h3] at e; exact hown.2 k e
    · rw [h3, size_alloc] at e; cases e; omega
/-- Words joined, item by item. -/
def zw (op : Nat → Nat → Nat) (wa wb : List Nat) (k : Nat) : List Nat := (List.range k).map fun i => op (wn wa i) (wn wb i)
theorem zw_len (op : Nat → Nat → Nat) (wa wb : List Nat) (k : Nat) : (zw op wa wb k).length = k := by simp [zw]
theorem zw_succ (op : Nat → Nat → Nat) (wa wb : List Nat) (k : Nat) : zw op wa wb (k + 1) = zw op wa wb k ++ [op (wn wa k) (wn wb k)] := by
  unfold zw
  rw [List.range_succ, List.map_append]
  rfl
theorem wn_zw {op : Nat → Nat → Nat} {wa wb : List Nat} {k i : Nat} (hi : i < k) : wn (zw op wa wb k) i = op (wn wa i) (wn wb i) := by
  simp [wn, zw, hi]
def op29 (a b : Nat) : Nat := a ||| b
def op30 (a b : Nat) : Nat := a &&& b
def op31 (a b : Nat) : Nat := a &&& (18446744073709551615 - b)
def mb29 (m n : Nat → Bool) : Nat → Bool := fun j => m j || n j
def mb30 (m n : Nat → Bool) : Nat → Bool := fun j => m j && n j
def mb31 (m n : Nat → Bool) : Nat → Bool := fun j => m j && !n j
theorem lt29 {a b : Nat} (ha : a < 18446744073709551616) (hb : b < 18446744073709551616) : op29 a b < 18446744073709551616 := Nat.or_lt_two_pow (n := 64) ha hb
theorem bit29 {a b j : Nat} (hb : b < 18446744073709551616) (hj : j < 64) {m n : Nat → Bool} {i : Nat} (h1 : a.testBit j = m i) (h2 : b.testBit j = n i) : (op29 a b).testBit j = mb29 m n i := by
  unfold op29 mb29
  rw [Nat.testBit_or]
  rw [h1, h2]
theorem fn29 (w : World) (a b : Nat) (ha : a < 18446744073709551616) (hb : b < 18446744073709551616) : Calls Tryd.prog 29 #[.int .u64 (a : Int), .int .u64 (b : Int)] w fun e w' => e = .returned (.int .u64 (op29 a b : Nat)) ∧ w = w' := by
  go_enter Tryd.func29, Tryd.ntmps29
  go_wp2
  go_ret
  exact ⟨int_ret (bits_or_u64_nat a b ha hb), rfl⟩
theorem joined29 (w : World) (ga gb ca cb L : Nat) (wa wb : List Nat) (hL0 : 0 < L) (hL : L ≤ 65) (hca : L ≤ ca) (hcb : L ≤ cb) (hga : ga < w.heap.size) (hgb : gb < w.heap.size)
    (ha : ∀ i, i < L → w.cell? ⟨ga, i, none⟩ = some (.int .u64 (wn wa i : Nat)) ∧ wn wa i < 18446744073709551616) (hb : ∀ i, i < L → w.cell? ⟨gb, i, none⟩ = some (.int .u64 (wn wb i : Nat)) ∧ wn wb i < 18446744073709551616) :
    Calls Tryd.prog 35 #[.slice (some ⟨ga, 0, none⟩) L ca, .slice (some ⟨gb, 0, none⟩) L cb, .func (Fn.func 29) #[] #[]] w fun e w' => ∃ v, e = .returned v ∧ WR w' w.heap.size v (zw op29 wa wb L) ∧ Gn w w' := by
  have HA : Hid (∀ i, i < L → w.cell? ⟨ga, i, none⟩ = some (.int .u64 (wn wa i : Nat)) ∧ wn wa i < 18446744073709551616) := ha
  have HB : Hid (∀ i, i < L → w.cell? ⟨gb, i, none⟩ = some (.int .u64 (wn wb i : Nat)) ∧ wn wb i < 18446744073709551616) := hb
  obtain ⟨i0, hi0, hz0, hz1, hz2⟩ := info_parts info46
  have hby : i0.bytes * L ≤ 281474976710656 := by rw [hz2]; omega
  have hml : L ≤ maxLen := by unfold maxLen; omega
  have q1 : (L : Int) = (L : Int) := rfl
  clear ha hb
  go_enter Tryd.func35, Tryd.ntmps35
  go_wp2_with (at_make; refine wpList_make_own _ rfl _ _ _ rfl 0 46 i0 (.int .u64 0) 1 Tryd.underlying43 hi0 hz0 hz1 .i64 .i64 _ L rfl rfl rfl hby hml (Nat.zero_le _) ?_; intro w2 h1 h2; have H1 : Hid (WR w2 w.heap.size (.slice (some ⟨w.heap.size, 0, none⟩) 0 L) []) := ⟨h1, fun k e => (by cases e; exact Nat.le_refl _)⟩; have H2 : Hid (Gn w w2) := (Kp.of_gb (S := fun _ => False) h2 (fun k e => (by cases e))).to_gn (fun k e => e.elim); clear h1 h2)
  go_loopw [7, 15] (fun u i wr => ∃ k : Nat, k ≤ L ∧ i = .int .i64 k ∧ WR wr w.heap.size u (zw op29 wa wb k) ∧ Gn w wr) (fun _ i _ => L - (intOf i).toNat)
  case atStart => exact ⟨0, by omega, rfl, H1.out, H2.out⟩
  case round =>
    clear H1 H2
    obtain ⟨k, hk, rfl, hW, hg⟩ := hrel
    have HW : Hid (WR wr w.heap.size u7 (zw op29 wa wb k)) := hW
    have HG : Hid (Gn w wr) := hg
    have hws := hg.size
    clear hW hg
    by_cases hkl : k < L
    · obtain ⟨a1, a2⟩ := HA.out k hkl
      obtain ⟨b1, b2⟩ := HB.out k hkl
      have d1 := gn_cell HG.out a1
      have d2 := gn_cell HG.out b1
      have HZ : Hid (zw op29 wa wb (k + 1) = zw op29 wa wb k ++ [op29 (wn wa k) (wn wb k)]) := zw_succ _ _ _ _
      have hgar : ga < wr.heap.size := by omega
      have hgbr : gb < wr.heap.size := by omega
      have hbd : (zw op29 wa wb k).length ≤ 1000 := by rw [zw_len]; omega
      clear a1 b1
      generalize wn wa k = x at *
      generalize wn wb k = y at *
      have hkl2 : (k : Int) < (L : Int) := by omega
      go_wp2_with (first | (go_at_call 29; refine Calls.mono (fn29 wr x y a2 b2) ?_; rintro _ _ ⟨rfl, rfl⟩) | (at_builtin; refine wpList_append_wd rfl _ _ rfl w.heap.size _ (zw op29 wa wb k) (op29 x y) rfl (HW.out.gn ((Gn.refl _).alloc _)) rfl rfl hws hbd ?_; intro v2 w2 h1 h2; have H1 : Hid (WR w2 w.heap.size v2 (zw op29 wa wb k ++ [op29 x y])) := h1; have HG2 : Hid (Gn w w2) := h2 w (Nat.le_refl _) HG.out; clear h1 h2))
      go_roundw
      case rel => exact ⟨k + 1, by omega, by go_num, by rw [HZ.out]; exact H1.out, HG2.out⟩
      case measure => simp [intOf]; omega
    · obtain rfl : k = L := by omega
      go_wp2
      go_ret
      exact ⟨_, rfl, HW.out, HG.out⟩
theorem lt30 {a b : Nat} (ha : a < 18446744073709551616) (hb : b < 18446744073709551616) : op30 a b < 18446744073709551616 := Nat.lt_of_le_of_lt Nat.and_le_left ha
theorem bit30 {a b j : Nat} (hb : b < 18446744073709551616) (hj : j < 64) {m n : Nat → Bool} {i : Nat} (h1 : a.testBit j = m i) (h2 : b.testBit j = n i) : (op30 a b).testBit j = mb30 m n i := by
  unfold op30 mb30
  rw [Nat.testBit_and]
  rw [h1, h2]
theorem fn30 (w : World) (a b : Nat) (ha : a < 18446744073709551616) (hb : b < 18446744073709551616) : Calls Tryd.prog 30 #[.int .u64 (a : Int), .int .u64 (b : Int)] w fun e w' => e = .returned (.int .u64 (op30 a b : Nat)) ∧ w = w' := by
  go_enter Tryd.func30, Tryd.ntmps30
  go_wp2
  go_ret
  exact ⟨int_ret (and_nat a b ha hb), rfl⟩
theorem joined30 (w : World) (ga gb ca cb L : Nat) (wa wb : List Nat) (hL0 : 0 < L) (hL : L ≤ 65) (hca : L ≤ ca) (hcb : L ≤ cb) (hga : ga < w.heap.size) (hgb : gb < w.heap.size)
    (ha : ∀ i, i < L → w.cell? ⟨ga, i, none⟩ = some (.int .u64 (wn wa i : Nat)) ∧ wn wa i < 18446744073709551616) (hb : ∀ i, i < L → w.cell? ⟨gb, i, none⟩ = some (.int .u64 (wn wb i : Nat)) ∧ wn wb i < 18446744073709551616) :
    Calls Tryd.prog 35 #[.slice (some ⟨ga, 0, none⟩) L ca, .slice (some ⟨gb, 0, none⟩) L cb, .func (Fn.func 30) #[] #[]] w fun e w' => ∃ v, e = .returned v ∧ WR w' w.heap.size v (zw op30 wa wb L) ∧ Gn w w' := by
  have HA : Hid (∀ i, i < L → w.cell? ⟨ga, i, none⟩ = some (.int .u64 (wn wa i : Nat)) ∧ wn wa i < 18446744073709551616) := ha
  have HB : Hid (∀ i, i < L → w.cell? ⟨gb, i, none⟩ = some (.int .u64 (wn wb i : Nat)) ∧ wn wb i < 18446744073709551616) := hb
  obtain ⟨i0, hi0, hz0, hz1, hz2⟩ := info_parts info46
  have hby : i0.bytes * L ≤ 281474976710656 := by rw [hz2]; omega
  have hml : L ≤ maxLen := by unfold maxLen; omega
  have q1 : (L : Int) = (L : Int) := rfl
  clear ha hb
  go_enter Tryd.func35, Tryd.ntmps35
  go_wp2_with (at_make; refine wpList_make_own _ rfl _ _ _ rfl 0 46 i0 (.int .u64 0) 1 Tryd.underlying43 hi0 hz0 hz1 .i64 .i64 _ L rfl rfl rfl hby hml (Nat.zero_le _) ?_; intro w2 h1 h2; have H1 : Hid (WR w2 w.heap.size (.slice (some ⟨w.heap.size, 0, none⟩) 0 L) []) := ⟨h1, fun k e => (by cases e; exact Nat.le_refl _)⟩; have H2 : Hid (Gn w w2) := (Kp.of_gb (S := fun _ => False) h2 (fun k e => (by cases e))).to_gn (fun k e => e.elim); clear h1 h2)
  go_loopw [7, 15] (fun u i wr => ∃ k : Nat, k ≤ L ∧ i = .int .i64 k ∧ WR wr w.heap.size u (zw op30 wa wb k) ∧ Gn w wr) (fun _ i _ => L - (intOf i).toNat)
  case atStart => exact ⟨0, by omega, rfl, H1.out, H2.out⟩
  case round =>
    clear H1 H2
    obtain ⟨k, hk, rfl, hW, hg⟩ := hrel
    have HW : Hid (WR wr w.heap.size u7 (zw op30 wa wb k)) := hW
    have HG : Hid (Gn w wr) := hg
    have hws := hg.size
    clear hW hg
    by_cases hkl : k < L
    · obtain ⟨a1, a2⟩ := HA.out k hkl
      obtain ⟨b1, b2⟩ := HB.out k hkl
      have d1 := gn_cell HG.out a1
      have d2 := gn_cell HG.out b1
      have HZ : Hid (zw op30 wa wb (k + 1) = zw op30 wa wb k ++ [op30 (wn wa k) (wn wb k)]) := zw_succ _ _ _ _
      have hgar : ga < wr.heap.size := by omega
      have hgbr : gb < wr.heap.size := by omega
      have hbd : (zw op30 wa wb k).length ≤ 1000 := by rw [zw_len]; omega
      clear a1 b1
      generalize wn wa k = x at *
      generalize wn wb k = y at *
      have hkl2 : (k : Int) < (L : Int) := by omega
      go_wp2_with (first | (go_at_call 30; refine Calls.mono (fn30 wr x y a2 b2) ?_; rintro _ _ ⟨rfl, rfl⟩) | (at_builtin; refine wpList_append_wd rfl _ _ rfl w.heap.size _ (zw op30 wa wb k) (op30 x y) rfl (HW.out.gn ((Gn.refl _).alloc _)) rfl rfl hws hbd ?_; intro v2 w2 h1 h2; have H1 : Hid (WR w2 w.heap.size v2 (zw op30 wa wb k ++ [op30 x y])) := h1; have HG2 : Hid (Gn w w2) := h2 w (Nat.le_refl _) HG.out; clear h1 h2))
      go_roundw
      case rel => exact ⟨k + 1, by omega, by go_num, by rw [HZ.out]; exact H1.out, HG2.out⟩
      case measure => simp [intOf]; omega
    · obtain rfl : k = L := by omega
      go_wp2
      go_ret
      exact ⟨_, rfl, HW.out, HG.out⟩
theorem lt31 {a b : Nat} (ha : a < 18446744073709551616) (hb : b < 18446744073709551616) : op31 a b < 18446744073709551616 := Nat.lt_of_le_of_lt Nat.and_le_left ha
theorem bit31 {a b j : Nat} (hb : b < 18446744073709551616) (hj : j < 64) {m n : Nat → Bool} {i : Nat} (h1 : a.testBit j = m i) (h2 : b.testBit j = n i) : (op31 a b).testBit j = mb31 m n i := by
  unfold op31 mb31
  rw [Nat.testBit_and, not_bit hb hj]
  rw [h1, h2]
theorem fn31 (w : World) (a b : Nat) (ha : a < 18446744073709551616) (hb : b < 18446744073709551616) : Calls Tryd.prog 31 #[.int .u64 (a : Int), .int .u64 (b : Int)] w fun e w' => e = .returned (.int .u64 (op31 a b : Nat)) ∧ w = w' := by
  go_enter Tryd.func31, Tryd.ntmps31
  go_wp2
  go_ret
  exact ⟨int_ret (u64_andNot_nat a b ha hb), rfl⟩
theorem joined31 (w : World) (ga gb ca cb L : Nat) (wa wb : List Nat) (hL0 : 0 < L) (hL : L ≤ 65) (hca : L ≤ ca) (hcb : L ≤ cb) (hga : ga < w.heap.size) (hgb : gb < w.heap.size)
    (ha : ∀ i, i < L → w.cell? ⟨ga, i, none⟩ = some (.int .u64 (wn wa i : Nat)) ∧ wn wa i < 18446744073709551616) (hb : ∀ i, i < L → w.cell? ⟨gb, i, none⟩ = some (.int .u64 (wn wb i : Nat)) ∧ wn wb i < 18446744073709551616) :
    Calls Tryd.prog 35 #[.slice (some ⟨ga, 0, none⟩) L ca, .slice (some ⟨gb, 0, none⟩) L cb, .func (Fn.func 31) #[] #[]] w fun e w' => ∃ v, e = .returned v ∧ WR w' w.heap.size v (zw op31 wa wb L) ∧ Gn w w' := by
  have HA : Hid (∀ i, i < L → w.cell? ⟨ga, i, none⟩ = some (.int .u64 (wn wa i : Nat)) ∧ wn wa i < 18446744073709551616) := ha
  have HB : Hid (∀ i, i < L → w.cell? ⟨gb, i, none⟩ = some (.int .u64 (wn wb i : Nat)) ∧ wn wb i < 18446744073709551616) := hb
  obtain ⟨i0, hi0, hz0, hz1, hz2⟩ := info_parts info46
  have hby : i0.bytes * L ≤ 281474976710656 := by rw [hz2]; omega
  have hml : L ≤ maxLen := by unfold maxLen; omega
  have q1 : (L : Int) = (L : Int) := rfl
  clear ha hb
  go_enter Tryd.func35, Tryd.ntmps35
  go_wp2_with (at_make; refine wpList_make_own _ rfl _ _ _ rfl 0 46 i0 (.int .u64 0) 1 Tryd.underlying43 hi0 hz0 hz1 .i64 .i64 _ L rfl rfl rfl hby hml (Nat.zero_le _) ?_; intro w2 h1 h2; have H1 : Hid (WR w2 w.heap.size (.slice (some ⟨w.heap.size, 0, none⟩) 0 L) []) := ⟨h1, fun k e => (by cases e; exact Nat.le_refl _)⟩; have H2 : Hid (Gn w w2) := (Kp.of_gb (S := fun _ => False) h2 (fun k e => (by cases e))).to_gn (fun k e => e.elim); clear h1 h2)
  go_loopw [7, 15] (fun u i wr => ∃ k : Nat, k ≤ L ∧ i = .int .i64 k ∧ WR wr w.heap.size u (zw op31 wa wb k) ∧ Gn w wr) (fun _ i _ => L - (intOf i).toNat)
  case atStart => exact ⟨0, by omega, rfl, H1.out, H2.out⟩
  case round =>
    clear H1 H2
    obtain ⟨k, hk, rfl, hW, hg⟩ := hrel
    have HW : Hid (WR wr w.heap.size u7 (zw op31 wa wb k)) := hW
    have HG : Hid (Gn w wr) := hg
    have hws := hg.size
    clear hW hg
    by_cases hkl : k < L
    · obtain ⟨a1, a2⟩ := HA.out k hkl
      obtain ⟨b1, b2⟩ := HB.out k hkl
      have d1 := gn_cell HG.out a1
      have d2 := gn_cell HG.out b1
      have HZ : Hid (zw op31 wa wb (k + 1) = zw op31 wa wb k ++ [op31 (wn wa k) (wn wb k)]) := zw_succ _ _ _ _
      have hgar : ga < wr.heap.size := by omega
      have hgbr : gb < wr.heap.size := by omega
      have hbd : (zw op31 wa wb k).length ≤ 1000 := by rw [zw_len]; omega
      clear a1 b1
      generalize wn wa k = x at *
      generalize wn wb k = y at *
      have hkl2 : (k : Int) < (L : Int) := by omega
      go_wp2_with (first | (go_at_call 31; refine Calls.mono (fn31 wr x y a2 b2) ?_; rintro _ _ ⟨rfl, rfl⟩) | (at_builtin; refine wpList_append_wd rfl _ _ rfl w.heap.size _ (zw op31 wa wb k) (op31 x y) rfl (HW.out.gn ((Gn.refl _).alloc _)) rfl rfl hws hbd ?_; intro v2 w2 h1 h2; have H1 : Hid (WR w2 w.heap.size v2 (zw op31 wa wb k ++ [op31 x y])) := h1; have HG2 : Hid (Gn w w2) := h2 w (Nat.le_refl _) HG.out; clear h1 h2))
      go_roundw
      case rel => exact ⟨k + 1, by omega, by go_num, by rw [HZ.out]; exact H1.out, HG2.out⟩
      case measure => simp [intOf]; omega
    · obtain rfl : k = L := by omega
      go_wp2
      go_ret
      exact ⟨_, rfl, HW.out, HG.out⟩
end Go.Proofs.YtoaefmnjndklkaaDoor
