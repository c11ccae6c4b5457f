/- The walk of the law EligibleSpans. -/
import Derived.Test.YthcmhegbmpnepaaPlain
import Derived.Test.YthcmhegbmpnepaaAwake
import Derived.Deep.OwnRows
namespace Go.Proofs.Ythcmhegbmpnepaa
open Go.RowKit

theorem info3 : (Try.prog.info? 3).map (fun i => (i.zero, i.size, i.bytes)) = some (some (.int .i64 0), 1, 8) := by kernel_rfl

/-- The law's own state: the set's box at block sb, the counts at block cb. -/
structure St (w : World) (sb cb b off : Nat) (v' : Value) (l F : List B) (f : Nat → Int) (wr : World) : Prop where
  gn : Gn w wr
  old : w.heap.size ≤ cb
  lt : cb < wr.heap.size
  sl : SL wr v' F
  nv : ∀ g o k c, v' = .slice (some ⟨g, o, none⟩) k c → g ≠ cb
  cells : Cells wr b off l
  nb : b ≠ cb
  s0 : wr.cell? ⟨sb, 0, none⟩ = some (.int .i64 1)
  s1 : wr.cell? ⟨sb, 1, none⟩ = some v'
  ns : sb ≠ cb
  row : ∀ i, i < l.length → wr.cell? ⟨cb, i, none⟩ = some (.int .i64 (f i)) ∧ wr.frozen? ⟨cb, i, none⟩ = false

theorem St.grown {w : World} {sb cb b off : Nat} {v' : Value} {l F : List B} {f : Nat → Int} {wr wr' : World} (h : St w sb cb b off v' l F f wr) (hg : Gn wr wr') : St w sb cb b off v' l F f wr' := by
  have hs : sb < wr.heap.size := World.block_lt_of_cell? _ _ h.s0
  have hgn := h.gn.trans hg
  have hc := h.cells.grown hg
  have hsl := h.sl.grown hg
  obtain ⟨p, rfl⟩ := hg
  refine ⟨hgn, h.old, by rw [size_gr]; have := h.lt; omega, hsl, h.nv, hc, h.nb, ?_, ?_, h.ns, fun i hi => ?_⟩
  · rw [cell?_gr _ _ _ _ hs]; exact h.s0
  · rw [cell?_gr _ _ _ _ hs]; exact h.s1
  · rw [cell?_gr _ _ _ _ h.lt, frozen?_gr _ _ _ _ h.lt]; exact h.row i hi

theorem SL.kept {w w' : World} {e : Nat} {v : Value} {l : List B} (h : SL w v l) (hg : w.grownBy w' (some e)) (hn : ∀ g o k c, v = .slice (some ⟨g, o, none⟩) k c → g ≠ e) : SL w' v l := by
  rcases h with h | ⟨b, off, cap, rfl, hc⟩
  · exact .inl h
  · exact .inr ⟨b, off, cap, rfl, hc.kept hg (by have := hn _ _ _ _ rfl; simpa using this)⟩

theorem St.set {w : World} {sb cb b off : Nat} {v' : Value} {l F : List B} {f : Nat → Int} {wr : World} (h : St w sb cb b off v' l F f wr) {i : Nat} (hi : i < l.length) (x : Int) :
    St w sb cb b off v' l F (fun j => if j = i then x else f j) (wr.setCell ⟨cb, i, none⟩ (.int .i64 x)) := by
  have hg : wr.grownBy (wr.setCell ⟨cb, i, none⟩ (.int .i64 x)) (some cb) := gb_set (gb_refl _ _) _ _
  refine ⟨h.gn.setCell h.old _, h.old, by have := hg.size; have := h.lt; omega, h.sl.kept hg h.nv, h.nv, h.cells.kept hg (by simpa using h.nb), h.nb, hg.cell h.s0 (by simpa using h.ns), hg.cell h.s1 (by simpa using h.ns), h.ns, fun j hj => ?_⟩
  have hr := h.row j hj
  rw [World.frozen?_setCell]
  refine ⟨?_, hr.2⟩
  by_cases e : j = i
  · subst e
    rw [if_pos rfl]
    exact World.cell?_setCell_same _ _ _ hr.1
  · rw [if_neg e, World.cell?_setCell_other _ _ _ _ (by intro hh; injection hh with _ h2; exact e h2.symm)]
    exact hr.1

theorem all_next {P : Nat → Prop} {k : Nat} (h : ∀ j, j < k → P j) (hk : P k) : ∀ j, j < k + 1 → P j := by
  intro j hj
  rcases Nat.lt_succ_iff_lt_or_eq.1 hj with h1 | rfl
  · exact h j h1
  · exact hk
theorem SL.shape {w : World} {v : Value} {l : List B} (h : SL w v l) : ∃ o n c, v = .slice o n c := by
  rcases h with ⟨_, rfl⟩ | ⟨b, off, cap, rfl, _⟩ <;> exact ⟨_, _, _, rfl⟩
theorem cells_new (W : World) (b : B) (n : Nat) (hn : n = W.heap.size) : Cells (W.alloc (.cells #[.int .i64 b.id, .int .i64 b.wt, .int .i64 b.st, .bool b.v6, .int .u64 b.hi, .int .u64 b.lo] 29)) n 0 [b] := by
  refine ⟨by rw [size_alloc]; omega, fun k hk => ?_⟩
  simp only [List.length_cons, List.length_nil] at hk
  obtain rfl : k = 0 := by omega
  have key : ∀ j u, b.cells[j]? = some u → (W.alloc (.cells #[.int .i64 b.id, .int .i64 b.wt, .int .i64 b.st, .bool b.v6, .int .u64 b.hi, .int .u64 b.lo] 29)).cell? ⟨n, 0 + 0 * 6 + j, none⟩ = some u := fun j u h => by
    have := row_new W b n j u hn h
    rwa [show Addr.add ⟨n, 0, none⟩ j = ⟨n, 0 + 0 * 6 + j, none⟩ by unfold Addr.add; split <;> simp_all] at this
  exact ⟨key 0 _ rfl, key 1 _ rfl, key 2 _ rfl, key 3 _ rfl, key 4 _ rfl, key 5 _ rfl⟩
theorem St.congr {w : World} {sb cb b off : Nat} {v' : Value} {l F : List B} {f f' : Nat → Int} {wr : World} (h : St w sb cb b off v' l F f wr) (e : ∀ j, j < l.length → f j = f' j) : St w sb cb b off v' l F f' wr :=
  ⟨h.gn, h.old, h.lt, h.sl, h.nv, h.cells, h.nb, h.s0, h.s1, h.ns, fun i hi => by rw [← e i hi]; exact h.row i hi⟩
theorem cnt_le (F : List B) (b : B) (n : Nat) : cnt F b n ≤ n := by
  induction n with
  | zero => simp [cnt]
  | succ n ih => rw [cnt]; split <;> omega
theorem filt_tame {l : List B} (h : Right l) (hl : l.length ≤ 8) : Tame (l.filter ok) := by
  refine ⟨by have := List.length_filter_le ok l; omega, fun b hb => ?_⟩
  obtain ⟨i, hi, rfl⟩ := List.getElem_of_mem (List.mem_filter.1 hb).1
  have := h i hi
  simp only [badAt, decide_eq_false_iff_not, el, List.getD_eq_getElem?_getD, List.getElem?_eq_getElem hi, Option.getD_some] at this
  omega
theorem sum_le {F : List B} (h : ∀ b ∈ F, b.wt ≤ 100) : sumW F ≤ 100 * F.length := by
  induction F with
  | nil => simp [sumW]
  | cons c F ih =>
    have := ih (fun b hb => h b (List.mem_cons_of_mem _ hb))
    have := h c (List.mem_cons_self ..)
    simp only [sumW, List.length_cons]
    omega
theorem filt_sum {l : List B} (hl : l.length ≤ 8) (h : ∀ j, j < l.length → (el l j).wt ≤ 100) : sumW (l.filter ok) ≤ 800 := by
  have h1 := sum_le (F := l.filter ok) (fun b hb => by
    obtain ⟨i, hi, rfl⟩ := List.getElem_of_mem (List.mem_filter.1 hb).1
    have := h i hi
    simpa [el, hi] using this)
  have := List.length_filter_le ok l
  omega

theorem st_start {w : World} {b off : Nat} {l F : List B} {v' : Value} {r q2 : Gr} (sb cb : Nat) (hsb : sb = w.heap.size + r.os.size) (hcb : cb = sb + 1 + q2.os.size) (hs : SL (w.gr r) v' F) (hc : Cells w b off l) :
    St w sb cb b off v' l F (fun _ => 0) ((((w.gr r).alloc (.cells #[.int .i64 1, v'] 31)).gr q2).alloc (.cells (madeCells #[.int .i64 0] l.length) 3)) := by
  have hbox : ((w.gr r).alloc (.cells #[.int .i64 1, v'] 31)).heap[sb]? = some (.cells #[.int .i64 1, v'] 31) := by
    rw [hsb, ← size_gr]; exact heap_alloc_new _ _
  have hsz : sb < ((w.gr r).alloc (.cells #[.int .i64 1, v'] 31)).heap.size := lt_of_block hbox
  have hsz2 : sb < (((w.gr r).alloc (.cells #[.int .i64 1, v'] 31)).gr q2).heap.size := by rw [size_gr]; omega
  have hcs : cb = (((w.gr r).alloc (.cells #[.int .i64 1, v'] 31)).gr q2).heap.size := by rw [size_gr, size_alloc, size_gr]; omega
  have hrow := World.rowIs_made (((w.gr r).alloc (.cells #[.int .i64 1, v'] 31)).gr q2) (.int .i64 0) l.length 3
  rw [← hcs] at hrow
  have hcell : ∀ i, ((((w.gr r).alloc (.cells #[.int .i64 1, v'] 31)).gr q2).alloc (.cells (madeCells #[.int .i64 0] l.length) 3)).cell? ⟨sb, i, none⟩ = #[.int .i64 1, v'][i]? := fun i => by
    rw [World.cell?_alloc_lt _ _ _ hsz2, cell?_gr _ _ _ _ hsz]
    simp [World.cell?, hbox]
  refine ⟨(by repeat (first | exact Gn.refl _ | refine Gn.gr ?_ _ | refine Gn.alloc ?_ _)), by omega, by rw [size_alloc]; omega, hs.grown (by repeat (first | exact Gn.refl _ | refine Gn.gr ?_ _ | refine Gn.alloc ?_ _)), ?_, hc.grown (by repeat (first | exact Gn.refl _ | refine Gn.gr ?_ _ | refine Gn.alloc ?_ _)), ?_, hcell 0, hcell 1, by omega, fun i hi => ⟨hrow.cell hi, hrow.frozen i⟩⟩
  · rintro g o k c rfl
    rcases hs with ⟨_, h⟩ | ⟨b', off', cap', h, hb, _⟩
    · cases h
    · injection h with h1 h2 h3
      injection h1 with h1
      injection h1 with h1 h2
      rw [size_gr] at hb
      omega
  · have := hc.1
    omega
theorem right_nil (o : Option Addr) (c : Nat) (w : World) : Calls Try.prog 5 #[.slice o 0 c] w fun y w' => y = .returned (.bool true) ∧ Gn w w' := by
  go_enter Try.func5, Try.ntmps5
  go_wp2
  go_loop [3] (fun i => i = .int .i64 0) (fun _ => 0)
  case atStart => rfl
  case round =>
    subst hrel
    go_wp2
    go_ret
    exact ⟨rfl, (by repeat (first | exact Gn.refl _ | refine Gn.gr ?_ _ | refine Gn.alloc ?_ _))⟩
theorem of_nil (o : Option Addr) (c : Nat) (w : World) : Calls Try.prog 7 #[.slice o 0 c, .int .i64 1] w fun y w' => y = .returned (.agg #[.int .i64 1, .slice none 0 0]) ∧ Gn w w' := by
  go_enter Try.func7, Try.ntmps7
  go_wp2
  go_loop [5, 10] (fun u i => u = .slice none 0 0 ∧ i = .int .i64 0) (fun _ _ => 0)
  case atStart => exact ⟨rfl, rfl⟩
  case round =>
    obtain ⟨rfl, rfl⟩ := hrel
    go_wp2
    exact bodyPost_ret (v := .agg #[.int .i64 1, .slice none 0 0]) (by simp [results, Try.results7, go_sem]) rfl ⟨rfl, (by repeat (first | exact Gn.refl _ | refine Gn.gr ?_ _ | refine Gn.alloc ?_ _))⟩
theorem tame_nil : Tame [] := ⟨by decide, fun b hb => by simp at hb⟩
theorem weight_nil (w : World) : Calls Try.prog 8 #[.agg #[.int .i64 1, .slice none 0 0]] w fun y w' => y = .returned (.int .i64 0) ∧ Gn w w' := weight_is _ [] 1 w (.inl ⟨rfl, rfl⟩) tame_nil
theorem at_nil (w : World) : Calls Try.prog 9 #[.agg #[.int .i64 1, .slice none 0 0], .int .i64 0] w fun y w' =>
    y = .returned (.tuple #[.agg #[.int .i64 0, .int .i64 0, .int .i64 0, .bool false, .int .u64 0, .int .u64 0], .bool false]) ∧ Gn w w' := at_is _ [] 1 0 w (.inl ⟨rfl, rfl⟩) tame_nil
set_option maxHeartbeats 4000000 in
set_option maxRecDepth 100000 in
theorem spans_nil (o : Option Addr) (c : Nat) (w : World) : Calls Try.prog 3 #[.slice o 0 c] w fun e w' => e = .returned (.bool true) ∧ Gn w w' := by
  have hmk : ∀ w : World, Sem.run Try.prog (Instr.makeSlice 34 (.int .i64 0) (.int .i64 0)) w = .ok (.slice (some ⟨w.heap.size, 0, none⟩) 0 0) (w.alloc (.cells (madeCells #[.int .i64 0] 0) 3)) :=
    fun w => run_make_row' (P := Try.prog) 34 3 (.int .i64 0) 8 Try.underlying34 info3 rfl .i64 .i64 0 (by omega) (by omega) w
  go_enter Try.func3, Try.ntmps3
  go_wp2_with (go_at_call 5; refine (right_nil _ _ _).mono ?_; rintro y w' ⟨rfl, q, rfl⟩)
  refine wp_loop_rounds 1 ?_
  rw [rounds_succ]
  go_wp2_with (first
    | (go_at_call 7; refine (of_nil _ _ _).mono ?_; rintro y w' ⟨rfl, q2, rfl⟩)
    | (go_at_call 8; refine (weight_nil _).mono ?_; rintro y w' ⟨rfl, q3, rfl⟩))
  refine wp_loop_rounds 1 ?_
  rw [rounds_succ]
  go_wp2_with (go_at_call 9; refine (at_nil _).mono ?_; rintro y w' ⟨rfl, q4, rfl⟩)
  refine wp_loop_rounds 1 ?_
  rw [rounds_succ]
  go_wp2_with (go_at_call 6; refine (awake_is _).mono ?_; rintro y w' ⟨rfl, q5, rfl⟩)
  go_ret
  exact ⟨rfl, (by repeat (first | exact Gn.refl _ | refine Gn.gr ?_ _ | refine Gn.alloc ?_ _))⟩

set_option maxHeartbeats 4000000 in
set_option maxRecDepth 100000 in
theorem spans_walk (b off cap : Nat) (l : List B) (w : World) (hb : b < w.heap.size) (hc : Cells w b off l) (hlen : l.length ≤ 9223372036854775807) :
    Calls Try.prog 3 #[.slice (some ⟨b, off, none⟩) l.length cap] w fun e w' => e = .returned (.bool true) ∧ Gn w w' := by
  by_cases h8 : 8 < l.length
  · have h8' : (8 : Int) < (l.length : Int) := by omega
    go_enter Try.func3, Try.ntmps3
    go_wp2_with (first
      | (go_at_call 6; refine (awake_is _).mono ?_; rintro y w' ⟨rfl, q, rfl⟩))
    go_ret
    exact ⟨rfl, (by repeat (first | exact Gn.refl _ | refine Gn.gr ?_ _ | refine Gn.alloc ?_ _))⟩
  have h8' : ¬ (8 : Int) < (l.length : Int) := by omega
  by_cases hR : Right l
  case neg =>
    have hcR := fun w' (hg : Gn w w') => right_is (.slice (some ⟨b, off, none⟩) l.length cap) l w' (.inr ⟨b, off, cap, rfl, hc.grown hg⟩) (by omega)
    simp only [hR, decide_false] at hcR
    have HR : Hid _ := hcR
    clear hcR
    go_enter Try.func3, Try.ntmps3
    go_wp2_with (first
      | (go_at_call 5; refine (HR.out _ (by repeat (first | exact Gn.refl _ | refine Gn.gr ?_ _ | refine Gn.alloc ?_ _))).mono ?_; rintro y w' ⟨rfl, q, rfl⟩)
      | (go_at_call 6; refine (awake_is _).mono ?_; rintro y w' ⟨rfl, q, rfl⟩))
    go_ret
    exact ⟨rfl, (by repeat (first | exact Gn.refl _ | refine Gn.gr ?_ _ | refine Gn.alloc ?_ _))⟩
  have hcR := fun w' (hg : Gn w w') => right_is (.slice (some ⟨b, off, none⟩) l.length cap) l w' (.inr ⟨b, off, cap, rfl, hc.grown hg⟩) (by omega)
  simp only [hR, decide_true] at hcR
  have HR : Hid _ := hcR
  clear hcR
  go_enter Try.func3, Try.ntmps3
  go_wp2_with (first
    | (go_at_call 5; refine (HR.out _ (by repeat (first | exact Gn.refl _ | refine Gn.gr ?_ _ | refine Gn.alloc ?_ _))).mono ?_; rintro y w' ⟨rfl, q, rfl⟩)
    | (go_at_call 6; refine (awake_is _).mono ?_; rintro y w' ⟨rfl, q, rfl⟩))
  go_loopw [3] (fun i wr => ∃ k : Nat, k ≤ l.length ∧ i = .int .i64 k ∧ (∀ j, j < k → (el l j).wt ≤ 100) ∧ Gn w wr) (fun i _ => l.length - (intOf i).toNat)
  case atStart => exact ⟨0, by omega, rfl, fun j hj => absurd hj (by omega), (by repeat (first | exact Gn.refl _ | refine Gn.gr ?_ _ | refine Gn.alloc ?_ _))⟩
  case round =>
    obtain ⟨k, hk, rfl, hall, p, rfl⟩ := hrel
    have hck := hc.2 k
    have HA : Hid _ := hall
    clear hall
    by_cases hlt : k < l.length
    · obtain ⟨c0, c1, c2, c3, c4, c5⟩ := hck hlt
      clear hck
      have hb' := hc.1
      go_wp2_with (first
        | (go_at_call 6; refine (awake_is _).mono ?_; rintro y w' ⟨rfl, q, rfl⟩))
      · go_ret
        exact ⟨rfl, (by repeat (first | exact Gn.refl _ | refine Gn.gr ?_ _ | refine Gn.alloc ?_ _))⟩
      · have hle : (el l k).wt ≤ 100 := by omega
        go_roundw
        case rel => exact ⟨k + 1, by omega, by go_num, all_next HA.out hle, (by repeat (first | exact Gn.refl _ | refine Gn.gr ?_ _ | refine Gn.alloc ?_ _))⟩
        case measure => simp [intOf]; omega
    · have hge : k = l.length := by omega
      subst hge
      have hs1 := filt_sum (by omega) HA.out
      have hs0 := (filt_pos l).sum
      have hmk := run_make_row' (P := Try.prog) 34 3 (.int .i64 0) 8 Try.underlying34 info3 rfl .i64 .i64 l.length (by omega) (by omega)
      clear hck
      go_wp2_with (first
        | (go_at_call 7; refine (of_is _ l 1 _ (.inr ⟨b, off, cap, rfl, hc.grown (by repeat (first | exact Gn.refl _ | refine Gn.gr ?_ _ | refine Gn.alloc ?_ _))⟩) (by omega)).mono ?_; rintro y w' ⟨v', rfl, hsl, q, rfl⟩; obtain ⟨o', n', c', rfl⟩ := hsl.shape; simp only [gr_gr] at hsl; have HS : Hid _ := hsl; clear hsl)
        | (go_at_call 8; refine (weight_is _ (l.filter ok) 1 _ (SL.grown (show SL _ _ (l.filter ok) from HS.out) (by repeat (first | exact Gn.refl _ | refine Gn.gr ?_ _ | refine Gn.alloc ?_ _))) (filt_tame hR (by omega))).mono ?_; rintro y w' ⟨rfl, q2, rfl⟩))
      have hst := st_start (F := l.filter ok) (q2 := q2) (w.heap.size + (p.os.size + q.os.size)) (w.heap.size + (p.os.size + q.os.size) + 1 + q2.os.size) (by simp) (by omega) (show SL _ _ (l.filter ok) from HS.out) hc
      clear HS hmk
      have htm := filt_tame hR (by omega)
      generalize w.heap.size + (p.os.size + q.os.size) = sb at *
      generalize sb + 1 + q2.os.size = cb at *
      go_loopw [7] (fun i wr => ∃ n : Nat, (n : Int) ≤ sumW (l.filter ok) ∧ i = .int .i64 n ∧ St w sb cb b off (.slice o' n' c') l (l.filter ok) (fun j => cnt (l.filter ok) (el l j) n) wr)
        (fun i _ => (sumW (l.filter ok)).toNat - (intOf i).toNat)
      case atStart => exact ⟨0, hs0, rfl, hst⟩
      case round =>
        clear hst
        obtain ⟨n, hn, rfl, hst⟩ := hrel
        have e0 := hst.s0
        have e1 := hst.s1
        have hsb := World.block_lt_of_cell? _ _ e0
        by_cases hnl : (n : Int) < sumW (l.filter ok)
        · obtain ⟨a1, a2, a3, a4⟩ := at_ok n hnl
          have A4 : Hid _ := a4
          clear a4
          have hat := at_is _ _ 1 n wr hst.sl htm
          rw [a1] at hat
          have HAT : Hid _ := hat
          have HST : Hid _ := hst
          clear hat hst
          generalize hbb : atB (l.filter ok) n = bb at *
          unfold B.val at HAT
          have HB : Hid _ := hbb
          clear hbb
          go_wp2_with (first
            | (go_at_call 9; refine Calls.mono HAT.out ?_; rintro y w' ⟨rfl, q3, rfl⟩))
          have hst3 := HST.out.grown (show Gn wr ((wr.gr q3).alloc (.cells #[.int .i64 bb.id, .int .i64 bb.wt, .int .i64 bb.st, .bool bb.v6, .int .u64 bb.hi, .int .u64 bb.lo] 29)) by exact (Gn.refl _ |>.gr _ |>.alloc _))
          have hbx := cells_new (wr.gr q3) bb (wr.heap.size + q3.os.size) (by rw [size_gr])
          have HLT := HST.out.lt
          clear HAT HST e0 e1 hsb
          have htc : wr.heap.size + q3.os.size ≠ cb := by have := HLT; omega
          generalize wr.heap.size + q3.os.size = tb at *
          rw [a2] at hst3 hbx
          go_loopw [10] (fun i w3 => ∃ k : Nat, k ≤ l.length ∧ i = .int .i64 k ∧ Cells w3 tb 0 [bb] ∧ tb ≠ cb ∧
              St w sb cb b off (.slice o' n' c') l (l.filter ok) (fun j => if j < k then cnt (l.filter ok) (el l j) (n + 1) else cnt (l.filter ok) (el l j) n) w3) (fun i _ => l.length - (intOf i).toNat)
          case atStart => exact ⟨0, by omega, rfl, hbx, htc, hst3.congr (fun j _ => by simp)⟩
          case round =>
            clear hst3 hbx
            obtain ⟨k, hk, rfl, hbx, htb, hst⟩ := hrel
            by_cases hlt : k < l.length
            · obtain ⟨c0, c1, c2, c3, c4, c5⟩ := hst.cells.2 k hlt
              obtain ⟨x0, x1, x2, x3, x4, x5⟩ := hbx.2 0 (by simp)
              simp only [Nat.zero_mul, Nat.add_zero, Nat.zero_add, el, List.getD_cons_zero] at x0 x1 x2 x3 x4 x5
              obtain ⟨r0, r1⟩ := hst.row k hlt
              rw [if_neg (by omega)] at r0
              have hi : (k : Int) < (l.length : Int) := by omega
              have g1 := hst.cells.1
              have g2 := hbx.1
              have g3 := hst.lt
              have HST : Hid _ := hst
              have HBX : Hid _ := hbx
              clear hst hbx
              by_cases hq : el l k = bb
              · rw [hq] at c0 c1 c2 c3 c4 c5 r0
                rw [a2] at c2
                have hcn : (cnt (l.filter ok) bb (n + 1) : Int) = cnt (l.filter ok) bb n + 1 := by rw [cnt, HB.out, if_pos rfl]; rfl
                have hcb : (cnt (l.filter ok) bb n : Int) < 9223372036854775807 := by have := cnt_le (l.filter ok) bb n; omega
                go_wp2
                refine wp_region_gr (by kernel_rfl) (by kernel_rfl) ?_
                repeat (go_big_quiet_step (fail))
                refine wpQuiet_nil ?_
                rintro _ ⟨q4, rfl⟩
                go_wp2
                go_roundw
                case rel =>
                  refine ⟨k + 1, by omega, by go_num, Cells.grown (Cells.kept HBX.out (gb_set (gb_refl _ _) _ _) (by simpa using htb)) ⟨q4, rfl⟩, htb,
                    (St.grown (St.set HST.out hlt _) ⟨q4, rfl⟩).congr (fun j hj => ?_)⟩
                  by_cases hjk : j = k
                  · subst hjk
                    rw [if_pos rfl, if_pos (by omega), hq, hcn]
                  · rw [if_neg hjk]
                    by_cases hj2 : j < k
                    · rw [if_pos hj2, if_pos (by omega)]
                    · rw [if_neg hj2, if_neg (by omega)]
                case measure => simp [intOf]; omega
              · have hid : ¬ (el l k).id = bb.id := fun e => hq (hR.inj (el_mem hlt) A4.out e)
                go_wp2
                refine wp_region_gr (by kernel_rfl) (by kernel_rfl) ?_
                repeat (go_big_quiet_step (fail))
                refine wpQuiet_nil ?_
                rintro _ ⟨q4, rfl⟩
                go_wp2
                go_roundw
                case rel =>
                  refine ⟨k + 1, by omega, by go_num, Cells.grown HBX.out ⟨q4, rfl⟩, htb, (HST.out.grown ⟨q4, rfl⟩).congr (fun j hj => ?_)⟩
                  by_cases hjk : j = k
                  · subst hjk
                    rw [if_neg (by omega), if_pos (by omega), cnt, HB.out, if_neg (fun e => hq e.symm)]
                    rfl
                  · by_cases hj2 : j < k
                    · rw [if_pos hj2, if_pos (by omega)]
                    · rw [if_neg hj2, if_neg (by omega)]
                case measure => simp [intOf]; omega
            · have hge : k = l.length := by omega
              subst hge
              have hst1 := hst.congr (f' := fun j => (cnt (l.filter ok) (el l j) (n + 1) : Int)) (fun j hj => by rw [if_pos hj])
              have HST : Hid _ := hst1
              clear hst hst1
              go_wp2
              go_roundw
              case rel => exact ⟨n + 1, by omega, by go_num, HST.out⟩
              case measure => simp [intOf]; omega
        · have hnW : (n : Int) = sumW (l.filter ok) := by omega
          have hat := at_is _ _ 1 (sumW (l.filter ok)) wr hst.sl htm
          rw [at_end] at hat
          have HAT : Hid _ := hat
          have HST : Hid _ := hst
          clear hat hst
          generalize hbb : atB (l.filter ok) (sumW (l.filter ok)) = bb at *
          unfold B.val at HAT
          clear hbb
          go_wp2_with (first
            | (go_at_call 9; refine Calls.mono HAT.out ?_; rintro y w' ⟨rfl, q3, rfl⟩))
          have hst3 := HST.out.grown (show Gn wr ((wr.gr q3).alloc (.cells #[.int .i64 bb.id, .int .i64 bb.wt, .int .i64 bb.st, .bool bb.v6, .int .u64 bb.hi, .int .u64 bb.lo] 29)) by exact (Gn.refl _ |>.gr _ |>.alloc _))
          clear HAT HST e0 e1 hsb
          go_loopw [13] (fun i w3 => ∃ k : Nat, k ≤ l.length ∧ i = .int .i64 k ∧ St w sb cb b off (.slice o' n' c') l (l.filter ok) (fun j => cnt (l.filter ok) (el l j) n) w3) (fun i _ => l.length - (intOf i).toNat)
          case atStart => exact ⟨0, by omega, rfl, hst3⟩
          case round =>
            clear hst3
            obtain ⟨k, hk, rfl, hst⟩ := hrel
            by_cases hlt : k < l.length
            · obtain ⟨c0, c1, c2, c3, c4, c5⟩ := hst.cells.2 k hlt
              obtain ⟨r0, r1⟩ := hst.row k hlt
              rw [count_want hR (el_mem hlt) n hnW] at r0
              have hi : (k : Int) < (l.length : Int) := by omega
              have g1 := hst.cells.1
              have g3 := hst.lt
              have e0 := hst.s0
              have e1 := hst.s1
              have g4 := World.block_lt_of_cell? _ _ e0
              have hhas := fun p : Gr => has_is _ _ 1 (el l k).id (wr.gr p) (hst.sl.grown ⟨p, rfl⟩) (by have := List.length_filter_le ok l; omega)
              rw [has_want hR (el_mem hlt)] at hhas
              have HH : Hid (∀ p : Gr, _) := hhas
              have HST : Hid _ := hst
              clear hst hhas
              by_cases hs : (el l k).st = 1
              · have hw : want (el l k) = (el l k).wt := by unfold want; rw [if_pos hs]
                rw [hw] at r0 HH
                rw [hs] at c2
                go_wp2
                refine wp_region_gr (by kernel_rfl) (by kernel_rfl) ?_
                repeat (go_big_quiet_step (first | (go_at_call 10; exact Calls.in_gr (HH.out _))))
                refine wpQuiet_nil ?_
                rintro _ ⟨q4, rfl⟩
                go_wp2
                go_roundw
                case rel => exact ⟨k + 1, by omega, by go_num, St.grown HST.out ⟨q4, rfl⟩⟩
                case measure => simp [intOf]; omega
              · have hw : want (el l k) = 0 := by unfold want; rw [if_neg hs]
                rw [hw] at r0 HH
                go_wp2
                refine wp_region_gr (by kernel_rfl) (by kernel_rfl) ?_
                repeat (go_big_quiet_step (first | (go_at_call 10; exact Calls.in_gr (HH.out _))))
                refine wpQuiet_nil ?_
                rintro _ ⟨q4, rfl⟩
                go_wp2
                go_roundw
                case rel => exact ⟨k + 1, by omega, by go_num, St.grown HST.out ⟨q4, rfl⟩⟩
                case measure => simp [intOf]; omega
            · have hge : k = l.length := by omega
              subst hge
              have hgn := hst.gn
              have HGN : Hid _ := hgn
              clear hst hgn
              go_wp2_with (first
                | (go_at_call 6; refine (awake_is _).mono ?_; rintro y w' ⟨rfl, q5, rfl⟩))
              go_ret
              exact ⟨rfl, Gn.gr HGN.out _⟩
end Go.Proofs.Ythcmhegbmpnepaa
