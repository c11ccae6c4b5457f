/- Sets that nobody made; sets of two sizes; awake. -/
import Derived.Test.YtoaefmnjndklkaaDoorB47
namespace Go.Proofs.YtoaefmnjndklkaaDoor
open Go.RowKit

theorem may_nil (w : World) (n : Int) : Calls Tryd.prog 24 #[.pointer none, .int .i64 n] w fun e w' => e = .returned (.bool false) ∧ w = w' := by
  go_enter Tryd.func24, Tryd.ntmps24
  go_wp2
  go_ret
  exact ⟨rfl, rfl⟩
theorem put_nil (w : World) (n : Int) : Calls Tryd.prog 7 #[.pointer none, .int .i64 n] w fun e w' => e = .returned (.bool false) ∧ w = w' := by
  go_enter Tryd.func7, Tryd.ntmps7
  go_wp2_with (go_at_call 24; refine Calls.mono (may_nil w n) ?_; rintro _ _ ⟨rfl, rfl⟩)
  go_ret
  exact ⟨rfl, rfl⟩
theorem len_nil (w : World) : Calls Tryd.prog 15 #[.pointer none] w fun e w' => e = .returned (.int .i64 0) ∧ w = w' := by
  go_enter Tryd.func15, Tryd.ntmps15
  go_wp2
  go_ret
  exact ⟨rfl, rfl⟩
theorem next_nil (w : World) (n : Int) : Calls Tryd.prog 11 #[.pointer none, .int .i64 n] w fun e w' => e = .returned (.int .i64 (-1)) ∧ w = w' := by
  go_enter Tryd.func11, Tryd.ntmps11
  go_wp2
  go_ret
  exact ⟨rfl, rfl⟩
theorem list_nil (w : World) : Calls Tryd.prog 20 #[.pointer none] w fun e w' => e = .returned (.slice none 0 0) ∧ w = w' := by
  go_enter Tryd.func20, Tryd.ntmps20
  go_wp2_with (go_at_call 11; refine Calls.mono (next_nil w 0) ?_; rintro _ _ ⟨rfl, rfl⟩)
  go_loop [3, 4] (fun u n => u = .slice none 0 0 ∧ n = .int .i64 (-1)) (fun _ _ => 0)
  case atStart => exact ⟨rfl, rfl⟩
  case round =>
    obtain ⟨rfl, rfl⟩ := hrel
    go_wp2
    go_ret
    exact ⟨rfl, rfl⟩
theorem may_plain (w : World) (pb : Nat) (c0 : w.cell? ⟨pb, 0, none⟩ = some (.int .i64 0)) (n : Int) : Calls Tryd.prog 24 #[.pointer (some ⟨pb, 0, none⟩), .int .i64 n] w fun e w' => e = .returned (.bool false) ∧ w = w' := by
  by_cases hn : 0 ≤ n
  · have h2 : ¬ n < 0 := by omega
    go_enter Tryd.func24, Tryd.ntmps24
    go_wp2
    go_ret
    exact ⟨rfl, rfl⟩
  · go_enter Tryd.func24, Tryd.ntmps24
    go_wp2
    go_ret
    exact ⟨rfl, rfl⟩
theorem put_plain (w : World) (pb : Nat) (c0 : w.cell? ⟨pb, 0, none⟩ = some (.int .i64 0)) (n : Int) : Calls Tryd.prog 7 #[.pointer (some ⟨pb, 0, none⟩), .int .i64 n] w fun e w' => e = .returned (.bool false) ∧ w = w' := by
  go_enter Tryd.func7, Tryd.ntmps7
  go_wp2_with (go_at_call 24; refine Calls.mono (may_plain w pb c0 n) ?_; rintro _ _ ⟨rfl, rfl⟩)
  go_ret
  exact ⟨rfl, rfl⟩
theorem next_plain (w : World) (pb : Nat) (c0 : w.cell? ⟨pb, 0, none⟩ = some (.int .i64 0)) (c1 : w.cell? ⟨pb, 1, none⟩ = some (.slice none 0 0)) : Calls Tryd.prog 11 #[.pointer (some ⟨pb, 0, none⟩), .int .i64 0] w fun e w' => e = .returned (.int .i64 (-1)) ∧ w = w' := by
  have hl := World.block_lt_of_cell? _ _ c0
  go_enter Tryd.func11, Tryd.ntmps11
  go_wp2
  go_loop [5] (fun i => i = .int .i64 0) (fun _ => 0)
  case atStart => exact rfl
  case round =>
    obtain rfl := hrel
    go_wp2
    go_ret
    exact ⟨rfl, rfl⟩
theorem nth_plain (w : World) (pb : Nat) (c0 : w.cell? ⟨pb, 0, none⟩ = some (.int .i64 0)) (c1 : w.cell? ⟨pb, 1, none⟩ = some (.slice none 0 0)) : Calls Tryd.prog 9 #[.pointer (some ⟨pb, 0, none⟩), .int .i64 0] w fun e w' => e = .returned (.int .i64 (-1)) ∧ w = w' := by
  go_enter Tryd.func9, Tryd.ntmps9
  go_wp2_with (go_at_call 11; refine Calls.mono (next_plain w pb c0 c1) ?_; rintro _ _ ⟨rfl, rfl⟩)
  go_loop [1, 5] (fun k n => k = .int .i64 0 ∧ n = .int .i64 (-1)) (fun _ _ => 0)
  case atStart => exact ⟨rfl, rfl⟩
  case round =>
    obtain ⟨rfl, rfl⟩ := hrel
    go_wp2
    go_ret
    exact ⟨rfl, rfl⟩
theorem rank_plain (w : World) (pb : Nat) (c0 : w.cell? ⟨pb, 0, none⟩ = some (.int .i64 0)) (c1 : w.cell? ⟨pb, 1, none⟩ = some (.slice none 0 0)) : Calls Tryd.prog 10 #[.pointer (some ⟨pb, 0, none⟩), .int .i64 5] w fun e w' => e = .returned (.int .i64 0) ∧ w = w' := by
  have hl := World.block_lt_of_cell? _ _ c0
  go_enter Tryd.func10, Tryd.ntmps10
  go_wp2
  go_loop [5, 22] (fun s i => s = .int .i64 0 ∧ i = .int .i64 0) (fun _ _ => 0)
  case atStart => exact ⟨rfl, rfl⟩
  case round =>
    obtain ⟨rfl, rfl⟩ := hrel
    go_wp2
    go_ret
    exact ⟨rfl, rfl⟩
theorem meet_plain (w : World) (pb : Nat) (c0 : w.cell? ⟨pb, 0, none⟩ = some (.int .i64 0)) (c1 : w.cell? ⟨pb, 1, none⟩ = some (.slice none 0 0)) : Calls Tryd.prog 13 #[.pointer (some ⟨pb, 0, none⟩), .pointer (some ⟨pb, 0, none⟩)] w fun e w' => e = .returned (.pointer none) ∧ Gn w w' := by
  have hl := World.block_lt_of_cell? _ _ c0
  have H : Hid (Calls Tryd.prog 28 #[.pointer (some ⟨pb, 0, none⟩), .pointer (some ⟨pb, 0, none⟩), .func (Fn.func 30) #[] #[]] w fun e w' => e = .returned (.pointer none) ∧ Gn w w') := by
    show Calls _ _ _ _ _
    go_enter Tryd.func28, Tryd.ntmps28
    go_wp2
    refine wp_region_gr (by kernel_rfl) (by kernel_rfl) ?_
    repeat (go_big_quiet_step (fail))
    refine wpQuiet_nil ?_
    rintro _ ⟨q1, rfl⟩
    go_wp2
    go_ret
    exact ⟨rfl, (Gn.refl _).gr _⟩
  clear c0 c1
  go_enter Tryd.func13, Tryd.ntmps13
  go_wp2_with (go_at_call 28; refine Calls.mono H.out ?_; rintro _ w2 ⟨rfl, h2⟩; have HG : Hid (Gn w w2) := h2; clear h2)
  go_ret
  exact ⟨rfl, HG.out⟩
theorem union_nil (w : World) (b : Value) : Calls Tryd.prog 12 #[.pointer none, b] w fun e w' => e = .returned (.pointer none) ∧ Gn w w' := by
  have H : Hid (Calls Tryd.prog 28 #[.pointer none, b, .func (Fn.func 29) #[] #[]] w fun e w' => e = .returned (.pointer none) ∧ Gn w w') := by
    show Calls _ _ _ _ _
    go_enter Tryd.func28, Tryd.ntmps28
    go_wp2
    refine wp_region_gr (by kernel_rfl) (by kernel_rfl) ?_
    repeat (go_big_quiet_step (fail))
    refine wpQuiet_nil ?_
    rintro _ ⟨q1, rfl⟩
    go_wp2
    go_ret
    exact ⟨rfl, (Gn.refl _).gr _⟩
  go_enter Tryd.func12, Tryd.ntmps12
  go_wp2_with (go_at_call 28; refine Calls.mono H.out ?_; rintro _ w2 ⟨rfl, h2⟩; have HG : Hid (Gn w w2) := h2; clear h2)
  go_ret
  exact ⟨rfl, HG.out⟩
theorem union_ne (w : World) (sa ga sb gb N M : Nat) (m n : Nat → Bool) (h : ST w sa ga N m) (h' : ST w sb gb M n) (hne : N ≠ M) :
    Calls Tryd.prog 12 #[.pointer (some ⟨sa, 0, none⟩), .pointer (some ⟨sb, 0, none⟩)] w fun e w' => e = .returned (.pointer none) ∧ Gn w w' := by
  have H : Hid (Calls Tryd.prog 28 #[.pointer (some ⟨sa, 0, none⟩), .pointer (some ⟨sb, 0, none⟩), .func (Fn.func 29) #[] #[]] w fun e w' => e = .returned (.pointer none) ∧ Gn w w') := by
    show Calls _ _ _ _ _
    have a0 := h.c0
    have b0 := h'.c0
    have sl := h.lt.1
    have sl' := h'.lt.1
    have z1 : ((N : Int) != (M : Int)) = true := by simp; omega
    have z2 : ((N : Int) == (M : Int)) = false := by simp; omega
    clear h h'
    go_enter Tryd.func28, Tryd.ntmps28
    go_wp2
    refine wp_region_gr (by kernel_rfl) (by kernel_rfl) ?_
    repeat (go_big_quiet_step (fail))
    refine wpQuiet_nil ?_
    rintro _ ⟨q1, rfl⟩
    go_wp2
    go_ret
    exact ⟨rfl, (Gn.refl _).gr _⟩
  clear h h'
  go_enter Tryd.func12, Tryd.ntmps12
  go_wp2_with (go_at_call 28; refine Calls.mono H.out ?_; rintro _ w2 ⟨rfl, h2⟩; have HG : Hid (Gn w w2) := h2; clear h2)
  go_ret
  exact ⟨rfl, HG.out⟩
def m0 : Nat → Bool := fun _ => false
def m1 : Nat → Bool := putM m0 3
def m2 : Nat → Bool := putM m1 70
theorem fact1 : nx m2 100 4 = 70 := by decide
theorem fact2 : below m2 100 70 = 1 := by decide
theorem fact3 : ati (lst m2 100) 1 = 70 := by decide
theorem awake_any (w : World) (hT : TabAt 0 Lib.deBruijn64tab w) : Calls Tryd.prog 5 #[] w fun e w' => e = .returned (.bool true) ∧ Gn w w' := by
  have HT : Hid (TabAt 0 Lib.deBruijn64tab w) := hT
  clear hT
  go_enter Tryd.func5, Tryd.ntmps5
  go_upto_region 2 with (go_at_call 6; refine Calls.mono (new_ok w 100 (by omega)) ?_; rintro _ w1 ⟨sb, rfl, h1, h2, g, h3, h4⟩; have HS1 : Hid (ST w1 sb g 100 m0) := h3; have HG1 : Hid (Gn w w1) := h2; clear h2 h3)
  go_upto_region 3 with (first
    | (go_at_call 7; refine Calls.mono (put_no w3 sb g 100 m2 70 HS3.out (by omega) (by decide)) ?_; rintro _ _ ⟨rfl, rfl⟩)
    | (go_at_call 7; refine Calls.mono (put_yes w2 sb g 100 m1 70 HS2.out (by omega) (by omega) (by decide)) ?_; rintro _ w3 ⟨rfl, h5, h6⟩; have HS3 : Hid (ST w3 sb g 100 m2) := h5; have HG3 : Hid (Gn w w3) := ((Kp.of_gn (fun k => w.heap.size ≤ k) HG2.out).trans (h6.mono (fun k _ e => by (subst e; exact h4)))).to_gn (fun k e => e); clear h5 h6)
    | (go_at_call 7; refine Calls.mono (put_yes w1 sb g 100 m0 3 HS1.out (by omega) (by omega) (by decide)) ?_; rintro _ w2 ⟨rfl, h5, h6⟩; have HS2 : Hid (ST w2 sb g 100 m1) := h5; have HG2 : Hid (Gn w w2) := ((Kp.of_gn (fun k => w.heap.size ≤ k) HG1.out).trans (h6.mono (fun k _ e => by (subst e; exact h4)))).to_gn (fun k e => e); clear h5 h6))
  have hb : Hid ((w3.alloc (.cells #[.int .i64 0, .slice none 0 0] 45)).heap[w3.heap.size]? = some (.cells #[.int .i64 0, .slice none 0 0] 45 (0, 0))) := heap_alloc_new _ _
  have HG4 : Hid (Gn w3 (w3.alloc (.cells #[.int .i64 0, .slice none 0 0] 45))) := (Gn.refl _).alloc _
  have HSA : Hid (ST (w3.alloc (.cells #[.int .i64 0, .slice none 0 0] 45)) sb g 100 m2) := HS3.out.gn HG4.out
  have HTA : Hid (TabAt 0 Lib.deBruijn64tab (w3.alloc (.cells #[.int .i64 0, .slice none 0 0] 45))) := tab_gn HT.out (HG3.out.trans HG4.out)
  have d0 : Hid ((w3.alloc (.cells #[.int .i64 0, .slice none 0 0] 45)).cell? ⟨w3.heap.size, 0, none⟩ = some (.int .i64 0)) := by show _ = _; unfold World.cell?; rw [hb.out]; rfl
  have d1 : Hid ((w3.alloc (.cells #[.int .i64 0, .slice none 0 0] 45)).cell? ⟨w3.heap.size, 1, none⟩ = some (.slice none 0 0)) := by show _ = _; unfold World.cell?; rw [hb.out]; rfl
  have F1 : Hid (Calls Tryd.prog 11 #[.pointer (some ⟨sb, 0, none⟩), .int .i64 4] (w3.alloc (.cells #[.int .i64 0, .slice none 0 0] 45)) fun e w' => e = .returned (.int .i64 70) ∧ (w3.alloc (.cells #[.int .i64 0, .slice none 0 0] 45)) = w') := by
    have := next_any _ sb g 100 m2 4 HSA.out (by omega) HTA.out (by omega)
    rw [show (4 : Int).toNat = 4 from rfl, fact1] at this
    exact this
  have F2 : Hid (Calls Tryd.prog 10 #[.pointer (some ⟨sb, 0, none⟩), .int .i64 70] (w3.alloc (.cells #[.int .i64 0, .slice none 0 0] 45)) fun e w' => e = .returned (.int .i64 1) ∧ (w3.alloc (.cells #[.int .i64 0, .slice none 0 0] 45)) = w') := by
    have := rank_any _ sb g 100 m2 70 HSA.out (by omega)
    rw [fact2] at this
    exact this
  have F3 : Hid (Calls Tryd.prog 9 #[.pointer (some ⟨sb, 0, none⟩), .int .i64 1] (w3.alloc (.cells #[.int .i64 0, .slice none 0 0] 45)) fun e w' => e = .returned (.int .i64 70) ∧ (w3.alloc (.cells #[.int .i64 0, .slice none 0 0] 45)) = w') := by
    have := nth_at _ sb g 100 m2 1 HSA.out (by omega) HTA.out (by omega)
    rw [fact3] at this
    exact this
  go_wp2_with (first
    | (go_at_call_of 11 (Value.pointer none); refine Calls.mono (next_nil _ 0) ?_; rintro _ _ ⟨rfl, rfl⟩)
    | (go_at_call_of 11 (Value.pointer (some ⟨w3.heap.size, 0, none⟩)); refine Calls.mono (next_plain _ _ d0.out d1.out) ?_; rintro _ _ ⟨rfl, rfl⟩)
    | (go_at_call_of 11 (Value.pointer (some ⟨sb, 0, none⟩)); refine Calls.mono F1.out ?_; rintro _ _ ⟨rfl, rfl⟩)
    | (go_at_call_of 10 (Value.pointer (some ⟨w3.heap.size, 0, none⟩)); refine Calls.mono (rank_plain _ _ d0.out d1.out) ?_; rintro _ _ ⟨rfl, rfl⟩)
    | (go_at_call_of 10 (Value.pointer (some ⟨sb, 0, none⟩)); refine Calls.mono F2.out ?_; rintro _ _ ⟨rfl, rfl⟩)
    | (go_at_call_of 9 (Value.pointer (some ⟨w3.heap.size, 0, none⟩)); refine Calls.mono (nth_plain _ _ d0.out d1.out) ?_; rintro _ _ ⟨rfl, rfl⟩)
    | (go_at_call_of 9 (Value.pointer (some ⟨sb, 0, none⟩)); refine Calls.mono F3.out ?_; rintro _ _ ⟨rfl, rfl⟩)
    | (go_at_call_of 7 (Value.pointer none); refine Calls.mono (put_nil _ 1) ?_; rintro _ _ ⟨rfl, rfl⟩)
    | (go_at_call_of 7 (Value.pointer (some ⟨w3.heap.size, 0, none⟩)); refine Calls.mono (put_plain _ _ d0.out 0) ?_; rintro _ _ ⟨rfl, rfl⟩)
    | (go_at_call 15; refine Calls.mono (len_nil _) ?_; rintro _ _ ⟨rfl, rfl⟩)
    | (go_at_call 20; refine Calls.mono (list_nil _) ?_; rintro _ _ ⟨rfl, rfl⟩)
    | (go_at_call 12; refine Calls.mono (union_nil _ _) ?_; rintro _ w5 ⟨rfl, h5⟩; have HG5 : Hid (Gn (w3.alloc (.cells #[.int .i64 0, .slice none 0 0] 45)) w5) := h5; clear h5)
    | (go_at_call 13; refine Calls.mono (meet_plain _ _ (gn_cell HG5.out d0.out) (gn_cell HG5.out d1.out)) ?_; rintro _ w6 ⟨rfl, h6⟩; have HG6 : Hid (Gn w5 w6) := h6; clear h6))
  go_ret
  exact ⟨rfl, HG3.out.trans (HG4.out.trans (HG5.out.trans HG6.out))⟩
end Go.Proofs.YtoaefmnjndklkaaDoor
