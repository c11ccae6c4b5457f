/- Numbers: the list of a turner's numbers. -/
import Derived.RangeFuncNested
import Derived.RangeFuncBound
import Derived.RangeFuncCalls
import Derived.RangeFuncLeaves
import Derived.Shelf.Abstract
import Derived.WalkKit
import Derived.OwnWalkIn
import Derived.TacticsInMore
import Derived.LoopNIn
import Derived.LoopIn
import Derived.Maps.AppendAt
import Derived.Test.YtidekhhelljjdaaPick
namespace Go.Proofs.Ytidekhhelljjdaa
open Go.RowKit Go.Shelf

attribute [local go_sem] Oper.semAt_some

def upto {α : Type} (f : Nat → α) (k : Nat) : List α := (List.range k).map f
theorem upto_succ {α : Type} (f : Nat → α) (k : Nat) : upto f (k + 1) = upto f k ++ [f k] := by simp [upto, List.range_succ]
theorem upto_length {α : Type} (f : Nat → α) (k : Nat) : (upto f k).length = k := by simp [upto]
/-- A turn: its backend, its number. -/
def tv (x : B × Int) : Value := .agg #[.int .i64 x.1.id, .int .i64 x.1.wt, .int .i64 x.1.st, .bool x.1.v6, .int .u64 x.1.hi, .int .u64 x.1.lo, .int .i64 x.2]
def tf (l : List B) (ns : Nat → Int) (j : Nat) : B × Int := (el l j, ns j)
theorem Row.below {n₀ : Nat} {w w' : World} {g : Nat} {l : List B} {ns : Nat → Int} (h : Row w g l ns) (hb : Below n₀ w w') (hg : g < n₀) (hs : w.heap.size ≤ w'.heap.size) : Row w' g l ns := by
  have e : ∀ i, w'.cell? ⟨g, i, none⟩ = w.cell? ⟨g, i, none⟩ := fun i => hb.cell (p := ⟨g, i, none⟩) hg
  have f : ∀ i, w'.frozen? ⟨g, i, none⟩ = w.frozen? ⟨g, i, none⟩ := fun i => World.frozen?_of_block (hb.block g hg)
  refine ⟨by have := h.1; omega, fun k hk => ?_⟩
  simp only [e, f]
  exact h.2 k hk

set_option maxRecDepth 100000 in
set_option maxHeartbeats 2000000 in
/-- The iterator of slices.Values over the turns. -/
theorem values1_in (F : Fence) (n : Nat) (h17 : F.fn 17) (hro : F.round = none) (hn : 1 ≤ n) (l Bs n₀ g cap : Nat) (L : List B) (ns : Nat → Int) (hL : L.length ≤ 64) (hg : g < n₀) (J Jx : List (B × Int) → World → Prop)
    (W : World) (hJ : AbidesFrom W.heap.size J)
    (hY : ∀ pre x W, J pre W → pre.length < L.length → YieldAt F (n - 1) Try.prog l #[tv x] W fun e W' =>
      (e = .returned (.bool true) ∧ J (pre ++ [x]) W' ∧ Below n₀ W W') ∨ (e = .returned (.bool false) ∧ Jx (pre ++ [x]) W'))
    (hn₀ : n₀ ≤ W.heap.size) (hBs : W.cell? ⟨Bs, 0, none⟩ = some (.slice (some ⟨g, 0, none⟩) L.length cap)) (hc : Row W g L ns) (h0 : J [] W) :
    CallsIn F n Try.prog 17 #[.func (.yield l) #[] #[], .pointer (some ⟨Bs, 0, none⟩)] W fun e W' => (∃ v, e = .returned v) ∧
      ((∃ ys, ys = upto (tf L ns) L.length ∧ J ys W') ∨ (∃ pre, (∃ k, k ≤ L.length ∧ pre = upto (tf L ns) k) ∧ Jx pre W')) := by
  refine callsIn_of_wp Try.func17 rfl h17 ?_ hro
  simp only [Try.ntmps17, List.size_toArray, List.length_cons, List.length_nil, Nat.reduceAdd, Nat.reduceSub, Array.replicate_succ, Array.replicate_zero, List.push_toArray, List.append_toArray, List.nil_append, List.cons_append]
  gi_wp2
  gi_loopw [7] (fun i wr => ∃ k : Nat, k ≤ L.length ∧ i = .int .i64 k ∧ J (upto (tf L ns) k) wr ∧ Below n₀ W wr)
    (fun i _ => L.length - (intOf i).toNat)
  case atStart => exact ⟨0, Nat.zero_le _, rfl, h0, Below.refl _ _⟩
  case round =>
    obtain ⟨k, hk, rfl, hJs, hnx⟩ := hrel
    by_cases hlt : k < L.length
    · obtain ⟨c0, c1, c2, c3, c4, c5, c6, _⟩ := (hc.below hnx hg (by have := hc.1; have := hnx.size; omega)).2 k hlt
      have hJ2 : J (upto (tf L ns) k) (wr.alloc (.cells #[.int .i64 (el L k).id, .int .i64 (el L k).wt, .int .i64 (el L k).st, .bool (el L k).v6, .int .u64 (el L k).hi, .int .u64 (el L k).lo, .int .i64 (ns k)] 53)) :=
        hJ _ _ _ none hJs (World.grownBy_alloc wr _ none) (fun r e => by cases e)
      have hBl : Below n₀ wr (wr.alloc (.cells #[.int .i64 (el L k).id, .int .i64 (el L k).wt, .int .i64 (el L k).st, .bool (el L k).v6, .int .u64 (el L k).hi, .int .u64 (el L k).lo, .int .i64 (ns k)] 53)) := (Below.refl _ _).alloc (by have := hnx.size; omega) _
      obtain ⟨fn, tmps, assign, body, hy, hR⟩ := hY _ (tf L ns k) _ hJ2 (by rw [upto_length]; exact hlt)
      simp only [tv, tf] at hy
      have hi' : (k : Int) < (L.length : Int) := by omega
      gi_wp2
      refine hR.mono ?_
      rintro e W3 (⟨rfl, hJ3, hk3⟩ | ⟨rfl, hJx3⟩)
      · gi_wp2
        go_roundw
        case rel => exact ⟨k + 1, by omega, by simp, by rw [upto_succ]; exact hJ3, (hnx.trans hBl).trans hk3⟩
        case measure => simp [intOf]; omega
      · gi_wp2
        refine bodyPost_ret (results_none rfl _ _ _) rfl ?_
        exact ⟨⟨_, rfl⟩, .inr ⟨_, ⟨k + 1, by omega, (upto_succ _ _).symm⟩, hJx3⟩⟩
    · obtain rfl : k = L.length := by omega
      gi_wp2
      go_end0
      exact ⟨⟨_, rfl⟩, .inl ⟨_, rfl, hJs⟩⟩

set_option maxRecDepth 100000 in
set_option maxHeartbeats 1000000 in
theorem values1_nil_in (F : Fence) (n : Nat) (h17 : F.fn 17) (hro : F.round = none) (l Bs : Nat) (J : List (B × Int) → World → Prop) (W : World) (hBs : W.cell? ⟨Bs, 0, none⟩ = some (.slice none 0 0)) (h0 : J [] W) :
    CallsIn F n Try.prog 17 #[.func (.yield l) #[] #[], .pointer (some ⟨Bs, 0, none⟩)] W fun e W' => (∃ v, e = .returned v) ∧ J [] W' := by
  refine callsIn_of_wp Try.func17 rfl h17 ?_ hro
  simp only [Try.ntmps17, List.size_toArray, List.length_cons, List.length_nil, Nat.reduceAdd, Nat.reduceSub, Array.replicate_succ, Array.replicate_zero, List.push_toArray, List.append_toArray, List.nil_append, List.cons_append]
  gi_wp2
  gi_loopw [7] (fun i wr => i = .int .i64 0 ∧ J [] wr) (fun _ _ => 0)
  case atStart => exact ⟨rfl, h0⟩
  case round =>
    obtain ⟨rfl, hJs⟩ := hrel
    gi_wp2
    go_end0
    exact ⟨⟨_, rfl⟩, hJs⟩

/-- A slice value holds the turns of L, in a block below n₀; or there are none. -/
def RV (n₀ : Nat) (w : World) (sv : Value) (L : List B) (ns : Nat → Int) : Prop :=
  (L = [] ∧ sv = .slice none 0 0) ∨ ∃ g cap, sv = .slice (some ⟨g, 0, none⟩) L.length cap ∧ g < n₀ ∧ Row w g L ns
theorem RV.below {n₀ m : Nat} {w w' : World} {sv : Value} {L : List B} {ns : Nat → Int} (h : RV n₀ w sv L ns) (hb : Below m w w') (hm : n₀ ≤ m) : RV n₀ w' sv L ns := by
  rcases h with h | ⟨g, cap, e, hg, hr⟩
  · exact .inl h
  · exact .inr ⟨g, cap, e, hg, hr.below hb (by omega) hb.size⟩

set_option maxHeartbeats 1000000 in
theorem values_in (F : Fence) (n : Nat) (h15 : F.fn 15) (hro : F.round = none) (a : Option Addr) (len cap : Nat) (w : World) :
    CallsIn F n Try.prog 15 #[.slice a len cap] w fun e w' => e = .returned (.func (.func 17) #[] #[.pointer (some ⟨w.heap.size, 0, none⟩)]) ∧ w' = w.alloc (.cells #[.slice a len cap] 48) := by
  refine callsIn_of_wp Try.func15 rfl h15 ?_ hro
  simp only [Try.ntmps15, List.size_toArray, List.length_cons, List.length_nil, Nat.reduceAdd, Nat.reduceSub, Array.replicate_succ, Array.replicate_zero, List.push_toArray, List.append_toArray, List.nil_append, List.cons_append]
  gi_wp2
  go_ret
  exact ⟨rfl, rfl⟩

theorem values_stops (F : Fence) (n : Nat) (h17 : F.fn 17) (hro : F.round = none) (hn : 1 ≤ n) (Bs n₀ : Nat) (sv : Value) (L : List B) (ns : Nat → Int) (hL : L.length ≤ 64) (w : World) (hBs : Bs < w.heap.size) (hn₀ : n₀ ≤ w.heap.size)
    (hc : w.cell? ⟨Bs, 0, none⟩ = some sv) (hI : RV n₀ w sv L ns) :
    SeqStopsK F n Try.prog 17 #[.pointer (some ⟨Bs, 0, none⟩)] (fun x : B × Int => #[tv x]) (Below n₀) (fun ys => ys = upto (tf L ns) L.length) (fun pre => ∃ k, k ≤ L.length ∧ pre = upto (tf L ns) k) L.length w := fun l J Jx W hW hJ _ hY h0 => by
  have hc' := (hW.cell (p := ⟨Bs, 0, none⟩) hBs).trans hc
  rcases hI.below hW hn₀ with ⟨rfl, rfl⟩ | ⟨g, cap, rfl, hg, hr⟩
  · exact (values1_nil_in F n h17 hro l Bs J W hc' h0).mono fun e W' ⟨he, hj⟩ => ⟨he, .inl ⟨_, rfl, hj⟩⟩
  · exact values1_in F n h17 hro hn l Bs n₀ g cap L ns hL hg J Jx W hJ hY (by have := hW.size; omega) hc' hr h0

theorem row7_own (Bx : Nat) (cs : Array Value) (t : TypeId) : Own (fun (_ : Unit) W => W.heap[Bx]? = some (.cells cs t (0, 0))) := fun s X Y row hs hg hr => by
  refine (hg.block Bx (Array.getElem?_eq_some_iff.1 hs).1 (fun e => ?_)).trans hs
  obtain ⟨o, ho, hc⟩ := hr Bx e.symm
  rw [hs] at ho
  cases ho
  cases hc

set_option maxRecDepth 100000 in
set_option maxHeartbeats 2000000 in
theorem numbers_in (F : Fence) (n : Nat) (h10 : F.fn 10) (h15 : F.fn 15) (h17 : F.fn 17) (hro : F.round = none) (hn : 3 ≤ n) (tb : Nat) (mk sm : Bool) (ver W0 : Int) (o : Option Addr) (m cap : Nat) (L : List B) (ns : Nat → Int) (w : World) (hTB : TB w tb mk sm ver W0 (.slice o m cap)) (hR : RV w.heap.size w (.slice o m cap) L ns) (hL : L.length ≤ 64) :
    CallsIn F n Try.prog 10 #[.pointer (some ⟨tb, 0, none⟩)] w fun e W' => ∃ v, e = .returned v ∧ W'.ownsRow w.heap.size 3 1 v L.length ((upto (tf L ns) L.length).map fun x => Value.int .i64 x.2) ∧ Below w.heap.size w W' := by
  have h1 : 1 ≤ n := by omega
  obtain ⟨i0, hi, hz0, hz1, hz2⟩ := info_parts info_int
  obtain ⟨tl, ⟨c0, c1, c2, c3, c4⟩, _⟩ := hTB.facts
  refine callsIn_of_wp_marks Try.func10 rfl h10 ?_ hro
  simp only [Try.ntmps10, List.size_toArray, List.length_cons, List.length_nil, Nat.reduceAdd, Nat.reduceSub, Array.replicate_succ, Array.replicate_zero, List.push_toArray, List.append_toArray, List.nil_append, List.cons_append]
  gi_wp2_with (gi_at_call 15; refine (values_in F (n - 1) h15 hro _ _ _ _).mono ?_; rintro e w' ⟨rfl, rfl⟩)
  have bO := Boxed.new w 32 (.slice none 0 0)
  have bN := Boxed.new (w.alloc (.cells #[.slice none 0 0] 32)) 48 (.slice o m cap)
  rw [World.size_alloc] at bN
  have hB0 : Below w.heap.size w ((w.alloc (.cells #[.slice none 0 0] 32)).alloc (.cells #[.slice o m cap] 48)) := ((Below.refl _ w).alloc (Nat.le_refl _) _).alloc (by simp) _
  refine wpIn_rangeFunc_ownH hro h1 (gf := 17) (lb := #[.pointer (some ⟨w.heap.size + 1, 0, none⟩)]) rfl h17 (enters_of Try.func17 (by kernel_rfl) rfl)
    (values_stops F (n - 1) h17 hro (by omega) (w.heap.size + 1) w.heap.size _ L ns hL _ (by simp) (by simp; omega) bN.cell (hR.below hB0 (Nat.le_refl _))) belowK_t (belowK_b (by simp; omega)) (Below.refl _ _) (fun _ => rfl)
    (fun pre W => (∃ v, Boxed W w.heap.size 32 v ∧ W.ownsRow w.heap.size 3 1 v pre.length (pre.map fun x => Value.int .i64 x.2) ∧ True) ∧ Below w.heap.size w W)
    (fun _ _ _ => False)
    (OwnFrom.and (Own.from (holdsRow_own w.heap.size w.heap.size 32 3 1 (fun pre : List (B × Int) => pre.length) (fun pre => pre.map fun x => Value.int .i64 x.2) (fun _ _ => True)) _) (ownFrom_below (Nat.le_refl _) (by simp; omega)))
    (fun _ _ _ _ _ hs _ _ => hs)
    ⟨⟨_, bO.alloc _, World.ownsRow_nil _ _ _ _, trivial⟩, hB0⟩
    (fun x a' W => ∃ Bx, w.heap.size < Bx ∧ W.heap[Bx]? = some (.cells #[.int .i64 x.1.id, .int .i64 x.1.wt, .int .i64 x.1.st, .bool x.1.v6, .int .u64 x.1.hi, .int .u64 x.1.lo, .int .i64 x.2] 53 (0, 0)) ∧ a' = { tmps := #[.pointer (some ⟨tb, 0, none⟩), undef, .slice none 0 0, .pointer (some ⟨w.heap.size, 0, none⟩), .pointer (some ⟨Bx, 0, none⟩), .pointer (some ⟨tb, 0, none⟩), .bool false, .pointer (some ⟨tb, 0, none⟩), .pointer (some ⟨tb, 0, none⟩), .pointer (some ⟨tb, 4, none⟩), .slice o m cap, .func (.func 17) #[] #[.pointer (some ⟨w.heap.size + 1, 0, none⟩)], tv x, undef, undef, undef, undef, undef, undef], defers := [] })
    (fun x a' _ X Y row hs hg hr => by obtain ⟨Bx, h1, h2, h3⟩ := hs; exact ⟨Bx, h1, row7_own Bx _ 53 () X Y row h2 hg (fun r e => (hr r e).2), h3⟩)
    ?assign ?body ?done ?stop
  case assign =>
    rintro l pre x W K ⟨⟨v, hv, hrow, _⟩, hB⟩ hK
    have hsz := hB.size
    simp only [tv]
    gi_wp2
    exact hK _ _ ((KeepsOthers.alloc _ _).from _) ((Below.refl _ W).alloc hB.size _) ⟨⟨v, hv.alloc _, hrow.alloc _, trivial⟩, hB.alloc hB.size _⟩ ⟨W.heap.size, hv.lt, World.alloc_heap_new W _, rfl⟩
  case body =>
    rintro l pre x a' W hl ⟨r, hr⟩ ⟨⟨v, hv, hrow, _⟩, hB⟩ ⟨Bx, hBx, bX, rfl⟩ hlt
    have hc := hv.cell
    have hxl : Bx < W.heap.size := (Array.getElem?_eq_some_iff.1 bX).1
    have cX : W.cell? ⟨Bx, 6, none⟩ = some (.int .i64 x.2) := by simp [World.cell?, bX]
    gi_wp2_with (gi_at_builtin; refine wpListIn_append_own _ rfl _ _ 32 rfl w.heap.size 3 i0 (.int .i64 0) 1 8 Try.underlying32 hi hz0 hz1 hz2 rfl (by decide) _ _ _ rfl (hrow.alloc _) ⟨W.heap.size, 0, none⟩ 1 1 [.int .i64 x.2] rfl rfl (cell_one_new _ _ _) (by simp [Value.oneCell']) (by unfold maxLen; omega) (by omega) (by have := hB.size; simp; omega) ?_; intro v' w1 hown' hgrow _; obtain ⟨g', cap', rfl⟩ := ownsRow_succ hown'; obtain ⟨hv1, hv2, hr2, hk2, hb2⟩ := hv.appended (by decide) hrow hB.size (Nat.le_refl _) hown' hgrow; have hc1 := hv1.cell; have hf1 := hv1.frozen)
    exact ⟨hk2.from _, hb2, ⟨_, hv2, by simpa using hr2, trivial⟩, hB.trans hb2⟩
  case done =>
    rintro D ys W hD rfl ⟨⟨v, hv, hrow, _⟩, hB⟩ hK
    have hc := hv.cell
    gi_wp2
    refine ⟨by simp, .inl ⟨_, _, rfl, run_takeDeferred hK, ?_⟩⟩
    exact ⟨_, results_tmp rfl _ _ _, v, rfl, by rw [upto_length] at hrow; exact ownsRow_putObj hrow _ hK rfl, hB.trans (belowK_b (w := w) (Nat.le_refl _) W D _ _ (by simp at hD; omega) hK rfl rfl)⟩
  case stop =>
    rintro D c pre W _ _ h _
    exact h.elim

theorem upto_ints (L : List B) (ns : Nat → Int) : ((upto (tf L ns) L.length).map fun x => Value.int .i64 x.2) = ints (upto ns L.length) := by
  simp [upto, ints, tf]
theorem below_gn {w w' : World} (h : Below w.heap.size w w') : Gn w w' := Gn.of_below h
theorem numbers_rv (tb : Nat) (mk sm : Bool) (ver W0 : Int) (sv : Value) (L : List B) (ns : Nat → Int) (w : World) (hTB : TB w tb mk sm ver W0 sv) (hR : RV w.heap.size w sv L ns) (hL : L.length ≤ 64) :
    Calls Try.prog 10 #[.pointer (some ⟨tb, 0, none⟩)] w fun y w' => ∃ v', y = .returned v' ∧ IL w' v' (upto ns L.length) ∧ Gn w w' := by
  obtain ⟨o, m, cap, rfl⟩ : ∃ o m cap, sv = .slice o m cap := by
    rcases hR with ⟨_, rfl⟩ | ⟨_, _, rfl, _⟩ <;> exact ⟨_, _, _, rfl⟩
  refine (callsIn_wide (n := 3)).1 ((numbers_in _ 3 trivial trivial trivial rfl (by omega) tb mk sm ver W0 o m cap L ns w hTB hR hL).mono ?_)
  rintro e w' ⟨v, rfl, ho, hb⟩
  refine ⟨v, rfl, IL.of_own (base := w.heap.size) ?_, below_gn hb⟩
  rw [upto_length, ← upto_ints]
  exact ho
/-- The numbers of a turner. -/
theorem numbers_is (tb g : Nat) (L : List B) (ns : Nat → Int) (ver : Int) (w : World) (h : Has w tb g L ns ver) (hL : L.length ≤ 64) :
    Calls Try.prog 10 #[.pointer (some ⟨tb, 0, none⟩)] w fun y w' => ∃ v', y = .returned v' ∧ IL w' v' (upto ns L.length) ∧ Gn w w' := by
  obtain ⟨cap, hTB, hRow, _⟩ := h
  exact numbers_rv tb _ _ _ _ _ L ns w hTB (.inr ⟨g, cap, rfl, hRow.1, hRow⟩) hL
theorem numbers_none (tb : Nat) (mk sm : Bool) (ver W0 : Int) (w : World) (h : TB w tb mk sm ver W0 (.slice none 0 0)) :
    Calls Try.prog 10 #[.pointer (some ⟨tb, 0, none⟩)] w fun y w' => ∃ v', y = .returned v' ∧ IL w' v' [] ∧ Gn w w' :=
  numbers_rv tb _ _ _ _ _ [] (fun _ => 0) w h (.inl ⟨rfl, rfl⟩) (by decide)
theorem numbers_nil (w : World) : Calls Try.prog 10 #[.pointer none] w fun y w' => y = .returned (.slice none 0 0) ∧ Gn w w' := by
  go_enter Try.func10, Try.ntmps10
  go_wp2
  go_ret
  exact ⟨rfl, (by with_reducible (repeat (first | exact Gn.refl _ | refine Gn.gr ?_ _ | refine Gn.alloc ?_ _ | refine Gn.drew ?_)))⟩
end Go.Proofs.Ytidekhhelljjdaa
