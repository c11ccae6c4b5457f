/- The turner: its state; New, set. -/
import Derived.Test.YtidekhhelljjdaaOwn
import Derived.Deep.RegionWith
import Derived.Deep.RegionHeld3
import Derived.Deep.RegionLaw
import Derived.Deep.AppendLies
namespace Go.Proofs.Ytidekhhelljjdaa
open Go.RowKit

/-- What a step leaves as it was: all blocks but those of S. -/
structure Kp (S : Nat → Prop) (w w' : World) : Prop where
  os : w'.os = w.os
  tape : w'.tape = w.tape
  output : w'.output = w.output
  size : w.heap.size ≤ w'.heap.size
  block : ∀ k, k < w.heap.size → ¬ S k → w'.heap[k]? = w.heap[k]?
theorem Kp.refl (S : Nat → Prop) (w : World) : Kp S w w := ⟨rfl, rfl, rfl, Nat.le_refl _, fun _ _ _ => rfl⟩
theorem Kp.trans {S : Nat → Prop} {a b c : World} (h : Kp S a b) (h' : Kp S b c) : Kp S a c :=
  ⟨h'.os.trans h.os, h'.tape.trans h.tape, h'.output.trans h.output, Nat.le_trans h.size h'.size, fun k hk hs => (h'.block k (Nat.lt_of_lt_of_le hk h.size) hs).trans (h.block k hk hs)⟩
theorem Kp.mono {S S' : Nat → Prop} {a b : World} (h : Kp S a b) (hs : ∀ k, k < a.heap.size → S k → S' k) : Kp S' a b := ⟨h.os, h.tape, h.output, h.size, fun k hk hn => h.block k hk (fun hh => hn (hs k hk hh))⟩
theorem Kp.of_gb {S : Nat → Prop} {a b : World} {row : Option Nat} (h : a.grownBy b row) (hs : ∀ k, row = some k → S k) : Kp S a b := ⟨h.os, h.tape, h.output, h.size, fun k hk hn => h.block k hk (fun e => hn (hs k e.symm))⟩
theorem Kp.of_gn (S : Nat → Prop) {a b : World} (h : Gn a b) : Kp S a b := Kp.of_gb (gb_gn (gb_refl a none) h) (fun k e => by cases e)
theorem Kp.gn {S : Nat → Prop} {a b c : World} (h : Kp S a b) (h' : Gn b c) : Kp S a c := h.trans (Kp.of_gn S h')
theorem Kp.set {S : Nat → Prop} {a b : World} (h : Kp S a b) (e i : Nat) (v : Value) (he : S e) : Kp S a (b.setCell ⟨e, i, none⟩ v) :=
  h.trans (Kp.of_gb (gb_set (gb_refl _ _) i v) (fun k hk => by cases hk; exact he))
theorem Kp.to_gn {S : Nat → Prop} {a b : World} (h : Kp S a b) (hs : ∀ k, S k → a.heap.size ≤ k) : Gn a b :=
  Gn.of_below ⟨h.os, h.tape, h.output, h.size, fun k hk => h.block k hk (fun hh => by have := hs k hh; omega)⟩
theorem Kp.cell {S : Nat → Prop} {a b : World} {e i : Nat} {v : Value} (h : Kp S a b) (hc : a.cell? ⟨e, i, none⟩ = some v) (hs : ¬ S e) : b.cell? ⟨e, i, none⟩ = some v :=
  (World.cell?_of_block (h.block e (World.block_lt_of_cell? a _ hc) hs)).trans hc

/-- Block tb holds a turner. -/
def TB (w : World) (tb : Nat) (mk sm : Bool) (ver W : Int) (sv : Value) : Prop := w.heap[tb]? = some (.cells #[.bool mk, .bool sm, .int .i64 ver, .int .i64 W, sv] 50 (0, 0))
section
variable {w w' : World} {tb : Nat} {mk sm : Bool} {ver W : Int} {sv : Value}
theorem TB.lt (h : TB w tb mk sm ver W sv) : tb < w.heap.size := lt_of_block h
theorem TB.at (h : TB w tb mk sm ver W sv) (i : Nat) : w.cell? ⟨tb, i, none⟩ = (#[Value.bool mk, .bool sm, .int .i64 ver, .int .i64 W, sv] : Array Value)[i]? := by
  simp [World.cell?, show w.heap[tb]? = _ from h]
theorem TB.free (h : TB w tb mk sm ver W sv) (i : Nat) : w.frozen? ⟨tb, i, none⟩ = false := by
  simp [World.frozen?, show w.heap[tb]? = _ from h]
theorem TB.kept {S : Nat → Prop} (h : TB w tb mk sm ver W sv) (hk : Kp S w w') (hs : ¬ S tb) : TB w' tb mk sm ver W sv := (hk.block tb h.lt hs).trans h
theorem TB.grown (h : TB w tb mk sm ver W sv) (hg : Gn w w') : TB w' tb mk sm ver W sv := h.kept (Kp.of_gn (fun _ => False) hg) (fun hh => hh)
theorem TB.kb {row : Option Nat} (h : TB w tb mk sm ver W sv) (hg : w.grownBy w' row) (hr : some tb ≠ row) : TB w' tb mk sm ver W sv := (hg.block tb h.lt hr).trans h
theorem TB.set1 (h : TB w tb mk sm ver W sv) (b : Bool) : TB (w.setCell ⟨tb, 1, none⟩ (.bool b)) tb mk b ver W sv := by
  unfold TB World.setCell at *; simp [Array.getElem?_modify, h]
theorem TB.set2 (h : TB w tb mk sm ver W sv) (b : Int) : TB (w.setCell ⟨tb, 2, none⟩ (.int .i64 b)) tb mk sm b W sv := by
  unfold TB World.setCell at *; simp [Array.getElem?_modify, h]
theorem TB.set3 (h : TB w tb mk sm ver W sv) (b : Int) : TB (w.setCell ⟨tb, 3, none⟩ (.int .i64 b)) tb mk sm ver b sv := by
  unfold TB World.setCell at *; simp [Array.getElem?_modify, h]
theorem TB.set4 (h : TB w tb mk sm ver W sv) (b : Value) : TB (w.setCell ⟨tb, 4, none⟩ b) tb mk sm ver W b := by
  unfold TB World.setCell at *; simp [Array.getElem?_modify, h]
end
/-- A slice of backends lies in another block. -/
theorem SL.ne_tb {w : World} {tb : Nat} {mk sm : Bool} {ver W : Int} {sv : Value} {b off : Nat} {l : List B} (h : Cells w b off l) (h0 : l ≠ []) (ht : TB w tb mk sm ver W sv) : b ≠ tb := by
  rintro rfl
  have hc := (h.2 0 (List.length_pos_iff.2 h0)).2.2.2.2.2
  rw [ht.at] at hc
  simp at hc
theorem cells_kept {S : Nat → Prop} {w w' : World} {b off : Nat} {l : List B} (h : Cells w b off l) (hg : Kp S w w') (hr : ¬ S b) : Cells w' b off l := by
  obtain ⟨hb, hc⟩ := h
  have e : ∀ i, w'.cell? ⟨b, i, none⟩ = w.cell? ⟨b, i, none⟩ := fun i => World.cell?_of_block (hg.block b hb hr)
  refine ⟨by have := hg.size; omega, fun k hk => ?_⟩
  simp only [e]
  exact hc k hk

/-! ### The turns -/
def B.tc (b : B) : List Value := [.int .i64 b.id, .int .i64 b.wt, .int .i64 b.st, .bool b.v6, .int .u64 b.hi, .int .u64 b.lo, .int .i64 0]
def tcells (l : List B) : List Value := l.flatMap B.tc
theorem tcells_append (l m : List B) : tcells (l ++ m) = tcells l ++ tcells m := by simp [tcells]
theorem tcells_at : ∀ (l : List B) (k j : Nat), k < l.length → j < 7 → (tcells l)[k * 7 + j]? = (el l k).tc[j]?
  | b :: l, 0, j, _, hj => by
    simp only [tcells, List.flatMap_cons, Nat.zero_mul, Nat.zero_add]
    rw [List.getElem?_append_left (by simp [B.tc]; omega)]
    rfl
  | b :: l, k + 1, j, hk, hj => by
    have := tcells_at l k j (by simpa using hk) hj
    simp only [tcells, List.flatMap_cons] at *
    rw [List.getElem?_append_right (by simp [B.tc]; omega)]
    rw [show (k + 1) * 7 + j - b.tc.length = k * 7 + j by simp [B.tc]; omega, this]
    simp [el]
/-- Block g holds the turns of l, with the numbers ns. -/
def Row (w : World) (g : Nat) (l : List B) (ns : Nat → Int) : Prop :=
  g < w.heap.size ∧ ∀ k, k < l.length → w.cell? ⟨g, k * 7, none⟩ = some (.int .i64 (el l k).id) ∧ w.cell? ⟨g, k * 7 + 1, none⟩ = some (.int .i64 (el l k).wt) ∧
    w.cell? ⟨g, k * 7 + 2, none⟩ = some (.int .i64 (el l k).st) ∧ w.cell? ⟨g, k * 7 + 3, none⟩ = some (.bool (el l k).v6) ∧
    w.cell? ⟨g, k * 7 + 4, none⟩ = some (.int .u64 (el l k).hi) ∧ w.cell? ⟨g, k * 7 + 5, none⟩ = some (.int .u64 (el l k).lo) ∧
    w.cell? ⟨g, k * 7 + 6, none⟩ = some (.int .i64 (ns k)) ∧ w.frozen? ⟨g, k * 7 + 6, none⟩ = false
theorem Row.kept {S : Nat → Prop} {w w' : World} {g : Nat} {l : List B} {ns : Nat → Int} (h : Row w g l ns) (hg : Kp S w w') (hr : ¬ S g) : Row w' g l ns := by
  obtain ⟨hb, hc⟩ := h
  have e : ∀ i, w'.cell? ⟨g, i, none⟩ = w.cell? ⟨g, i, none⟩ := fun i => World.cell?_of_block (hg.block g hb hr)
  have f : ∀ i, w'.frozen? ⟨g, i, none⟩ = w.frozen? ⟨g, i, none⟩ := fun i => World.frozen?_of_block (hg.block g hb hr)
  refine ⟨by have := hg.size; omega, fun k hk => ?_⟩
  simp only [e, f]
  exact hc k hk
theorem Row.grown {w w' : World} {g : Nat} {l : List B} {ns : Nat → Int} (h : Row w g l ns) (hg : Gn w w') : Row w' g l ns := h.kept (Kp.of_gn (fun _ => False) hg) (fun hh => hh)
theorem Row.congr {w : World} {g : Nat} {l : List B} {ns ns' : Nat → Int} (h : Row w g l ns) (e : ∀ k, k < l.length → ns k = ns' k) : Row w g l ns' :=
  ⟨h.1, fun k hk => by rw [← e k hk]; exact h.2 k hk⟩
theorem Row.set {w : World} {g : Nat} {l : List B} {ns : Nat → Int} (h : Row w g l ns) {i : Nat} (hi : i < l.length) (x : Int) :
    Row (w.setCell ⟨g, i * 7 + 6, none⟩ (.int .i64 x)) g l (fun j => if j = i then x else ns j) := by
  refine ⟨by have := (gb_set (gb_refl w (some g)) (i * 7 + 6) (.int .i64 x)).size; have := h.1; omega, fun k hk => ?_⟩
  obtain ⟨c0, c1, c2, c3, c4, c5, c6, c7⟩ := h.2 k hk
  have ne : ∀ j, j ≠ i * 7 + 6 → (w.setCell ⟨g, i * 7 + 6, none⟩ (.int .i64 x)).cell? ⟨g, j, none⟩ = w.cell? ⟨g, j, none⟩ := fun j hj => World.cell?_setCell_other _ _ _ _ (by intro hh; injection hh with _ h2; exact hj h2.symm)
  refine ⟨(ne _ (by omega)).trans c0, (ne _ (by omega)).trans c1, (ne _ (by omega)).trans c2, (ne _ (by omega)).trans c3, (ne _ (by omega)).trans c4, (ne _ (by omega)).trans c5, ?_, by rw [World.frozen?_setCell]; exact c7⟩
  by_cases e : k = i
  · subst e
    show _ = some (Value.int .i64 (if k = k then x else ns k))
    rw [if_pos rfl]
    exact World.cell?_setCell_same _ _ _ c6
  · show _ = some (Value.int .i64 (if k = i then x else ns k))
    rw [if_neg e]
    exact (ne _ (by omega)).trans c6
theorem Row.of_own {w : World} {base g cap : Nat} {l : List B} (h : w.ownsRow base 53 7 (.slice (some ⟨g, 0, none⟩) l.length cap) l.length (tcells l)) : base ≤ g ∧ Row w g l (fun _ => 0) := by
  rcases h with ⟨h1, ⟨h2, _⟩ | ⟨g', cap', cur, hv, hb, hg, hn, hm, hs, ht⟩⟩
  · cases h2
  · cases hv
    refine ⟨hb, lt_of_block hg, fun k hk => ?_⟩
    have key : ∀ j, j < 7 → w.cell? ⟨g, k * 7 + j, none⟩ = (el l k).tc[j]? := fun j hj => by
      have h3 := tcells_at l k j hk hj
      rw [← ht, List.getElem?_take] at h3
      rw [if_pos (by omega)] at h3
      simp only [World.cell?, hg]
      rw [← h3]
      simp
    exact ⟨key 0 (by omega), key 1 (by omega), key 2 (by omega), key 3 (by omega), key 4 (by omega), key 5 (by omega), key 6 (by omega), by simp [World.frozen?, hg]⟩

theorem new_is (w : World) : Calls Try.prog 8 #[] w fun e w' => ∃ tb, e = .returned (.pointer (some ⟨tb, 0, none⟩)) ∧ w.heap.size ≤ tb ∧ TB w' tb true false 0 0 (.slice none 0 0) ∧ Gn w w' := by
  go_enter Try.func8, Try.ntmps8
  go_wp2
  go_ret
  exact ⟨_, rfl, Nat.le_refl _, by unfold TB World.alloc; simp, (by with_reducible (repeat (first | exact Gn.refl _ | refine Gn.gr ?_ _ | refine Gn.alloc ?_ _ | refine Gn.drew ?_)))⟩

set_option maxHeartbeats 1000000 in
theorem set_same (tb : Nat) (ver W : Int) (sv v : Value) (w : World) (h : TB w tb true true ver W sv) : Calls Try.prog 14 #[.pointer (some ⟨tb, 0, none⟩), .agg #[.int .i64 ver, v]] w fun e w' => (∃ y, e = .returned y) ∧ Gn w w' := by
  have hl := h.lt
  have c0 := h.at 0
  have c1 := h.at 1
  have c2 := h.at 2
  simp only [List.getElem?_toArray, List.getElem?_cons_zero, List.getElem?_cons_succ] at c0 c1 c2
  clear h
  go_enter Try.func14, Try.ntmps14
  go_wp2
  refine wp_region_gr (by kernel_rfl) (by kernel_rfl) ?_
  repeat (go_big_quiet_step (fail))
  refine wpQuiet_nil ?_
  rintro _ ⟨q4, rfl⟩
  go_wp2
  refine bodyPost_ret (results_none rfl _ _ _) rfl ?_
  exact ⟨⟨_, rfl⟩, (by with_reducible (repeat (first | exact Gn.refl _ | refine Gn.gr ?_ _ | refine Gn.alloc ?_ _ | refine Gn.drew ?_)))⟩

theorem infoT : (Try.prog.info? 53).map (fun i => (i.zero, i.size, i.bytes)) = some (some (.agg #[.int .i64 0, .int .i64 0, .int .i64 0, .bool false, .int .u64 0, .int .u64 0, .int .i64 0]), 7, 56) := by kernel_rfl

theorem news_new (W : World) (cs : Array Value) (t : TypeId) (n : Nat) (hn : n = W.heap.size) (j : Nat) (u : Value) (hj : cs.toList[j]? = some u) : (W.alloc (.cells cs t)).cell? (Addr.add ⟨n, 0, none⟩ j) = some u := by
  subst hn
  exact World.news_of_block (heap_alloc_new W _) j u hj
theorem Kp.gb {S : Nat → Prop} {a b c : World} {row : Option Nat} (h : Kp S a b) (hg : b.grownBy c row) (hr : ∀ k, row = some k → a.heap.size ≤ k) : Kp S a c :=
  ⟨hg.os.trans h.os, hg.tape.trans h.tape, hg.output.trans h.output, Nat.le_trans h.size hg.size, fun k hk hs =>
    (hg.block k (Nat.lt_of_lt_of_le hk h.size) (fun e => by have := hr k e.symm; omega)).trans (h.block k hk hs)⟩
theorem gn_cell {a b : World} {e i : Nat} {v : Value} (h : Gn a b) (hc : a.cell? ⟨e, i, none⟩ = some v) : b.cell? ⟨e, i, none⟩ = some v := (Kp.of_gn (fun _ => False) h).cell hc (fun hh => hh)
theorem TB.facts {w : World} {tb : Nat} {mk sm : Bool} {ver W : Int} {sv : Value} (h : TB w tb mk sm ver W sv) : tb < w.heap.size ∧ (w.cell? ⟨tb, 0, none⟩ = some (.bool mk) ∧ w.cell? ⟨tb, 1, none⟩ = some (.bool sm) ∧ w.cell? ⟨tb, 2, none⟩ = some (.int .i64 ver) ∧
    w.cell? ⟨tb, 3, none⟩ = some (.int .i64 W) ∧ w.cell? ⟨tb, 4, none⟩ = some sv) ∧ (w.frozen? ⟨tb, 1, none⟩ = false ∧ w.frozen? ⟨tb, 2, none⟩ = false ∧ w.frozen? ⟨tb, 3, none⟩ = false ∧ w.frozen? ⟨tb, 4, none⟩ = false) :=
  ⟨h.lt, ⟨by rw [h.at]; rfl, by rw [h.at]; rfl, by rw [h.at]; rfl, by rw [h.at]; rfl, by rw [h.at]; rfl⟩, h.free 1, h.free 2, h.free 3, h.free 4⟩
/-- The loop of set, its state. -/
def SetL (w : World) (tb : Nat) (ver W : Int) (l : List B) (k : Nat) (wr : World) : Prop :=
  ∃ sv, TB wr tb true true ver W sv ∧ wr.ownsRow w.heap.size 53 7 sv k (tcells (l.take k)) ∧ Kp (fun j => j = tb) w wr ∧ (k = 0 → sv = .slice none 0 0)

set_option maxHeartbeats 4000000 in
theorem set_new (tb : Nat) (ver ver' W0 : Int) (sm : Bool) (sv v : Value) (l : List B) (w : World) (h : TB w tb true sm ver W0 sv) (hs : sm = false ∨ ver ≠ ver') (hv : SL w v l) (ht : Tame l) :
    Calls Try.prog 14 #[.pointer (some ⟨tb, 0, none⟩), .agg #[.int .i64 ver', v]] w fun e w' => (∃ y, e = .returned y) ∧ SetL w tb ver' (sumW l) l l.length w' := by
  have hl := h.lt
  have c0 := h.at 0
  have c1 := h.at 1
  have c2 := h.at 2
  have c3 := h.at 3
  have c4 := h.at 4
  simp only [List.getElem?_toArray, List.getElem?_cons_zero, List.getElem?_cons_succ] at c0 c1 c2 c3 c4
  have f1 := h.free 1
  have f2 := h.free 2
  have f3 := h.free 3
  have f4 := h.free 4
  have HW : Hid (∀ w' : World, Gn w w' → _) := fun w' hg => weight_is v l ver' w' (hv.grown hg) ht
  obtain ⟨i0, hi, hz0, hz1, hz2⟩ := info_parts infoT
  have HT : Hid _ := h
  have HV : Hid _ := hv
  clear h hv
  obtain ⟨o, n, c, rfl⟩ : ∃ o n c, v = .slice o n c := by
    rcases HV.out with ⟨_, rfl⟩ | ⟨b, off, cap, rfl, _⟩ <;> exact ⟨_, _, _, rfl⟩
  have hlen : n = l.length := by
    rcases HV.out with ⟨rfl, e⟩ | ⟨b, off, cap, e, _⟩ <;> cases e <;> rfl
  subst hlen
  cases sm
  · go_enter Try.func14, Try.ntmps14
    go_wp2
    refine wp_region_gr (by kernel_rfl) (by kernel_rfl) ?_
    repeat (go_big_quiet_step (fail))
    refine wpQuiet_nil ?_
    rintro _ ⟨q4, rfl⟩
    go_wp2
    obtain ⟨wq, hwq⟩ : ∃ x, ((w.alloc (.cells #[.int .i64 ver', .slice o l.length c] 36)).gr q4) = x := ⟨_, rfl⟩
    have hgq : Gn w wq := by rw [← hwq]; exact (by with_reducible (repeat (first | exact Gn.refl _ | refine Gn.gr ?_ _ | refine Gn.alloc ?_ _ | refine Gn.drew ?_)))
    have e0 : wq.cell? ⟨w.heap.size, 0, none⟩ = some (.int .i64 ver') := by rw [← hwq, cell?_gr _ _ _ _ (by simp)]; simp
    have e1 : wq.cell? ⟨w.heap.size, 1, none⟩ = some (.slice o l.length c) := by rw [← hwq, cell?_gr _ _ _ _ (by simp)]; simp
    have hslt : w.heap.size < wq.heap.size := World.block_lt_of_cell? wq _ e0
    rw [hwq]
    clear hwq
    have HG : Hid _ := hgq
    clear hgq c0 c1 c2 c3 c4 f1 f2 f3 f4
    have htw : tb ≠ w.heap.size := by omega
    go_region_held3 (fun w' => w'.cell? ⟨w.heap.size, 0, none⟩ = some (.int .i64 ver') ∧ w'.cell? ⟨w.heap.size, 1, none⟩ = some (.slice o l.length c))
      (first | go_keep | (go_split_ands; refine ⟨?_, ?_⟩ <;> (exact gn_cell hg2 (by assumption))))
      (first | (go_at_call 16; refine (HW.out _ ?_).mono ?_; exact Gn.drew HG.out; rintro y w' ⟨rfl, hg2⟩; have HG2 : Hid _ := hg2; obtain ⟨tl, ⟨c0, c1, c2, c3, c4⟩, f1, f2, f3, f4⟩ := TB.facts (TB.grown (TB.grown (show TB w tb true false ver W0 sv from HT.out) (Gn.drew HG.out)) hg2)))
    all_goals
      go_wp2
      go_loopw [38] (fun i wr => ∃ k : Nat, k ≤ l.length ∧ i = .int .i64 k ∧ SetL w tb ver' (sumW l) l k wr) (fun i _ => l.length - (intOf i).toNat)
      case atStart =>
        refine ⟨0, by omega, rfl, .slice none 0 0, ?_, World.ownsRow_nil _ _ _ _, ?_, fun _ => rfl⟩
        · exact TB.set4 (TB.set3 (TB.set2 (TB.set1 (TB.grown (TB.grown (show TB w tb true false ver W0 sv from HT.out) (Gn.drew HG.out)) HG2.out) _) _) _) _
        · exact ((((Kp.of_gn (fun j => j = tb) ((Gn.drew HG.out).trans HG2.out)).set tb 1 _ rfl).set tb 2 _ rfl).set tb 3 _ rfl).set tb 4 _ rfl
      case round =>
        obtain ⟨k, hk, rfl, sv', hTB, hown, hKp, hz⟩ := hrel
        obtain ⟨o5, n5, c5, rfl⟩ : ∃ o n c, sv' = .slice o n c := by
          rcases hown.2 with ⟨rfl, _⟩ | ⟨_, _, _, rfl, _⟩ <;> exact ⟨_, _, _, rfl⟩
        by_cases hlt : k < l.length
        · obtain ⟨b, off, ho, hcs⟩ : ∃ b off, o = some ⟨b, off, none⟩ ∧ Cells w b off l := by
            rcases HV.out with ⟨rfl, _⟩ | ⟨b, off, cap, e, h⟩
            · simp at hlt
            · cases e; exact ⟨b, off, rfl, h⟩
          subst ho
          have hbt : b ≠ tb := SL.ne_tb hcs (by rintro rfl; simp at hlt) HT.out
          obtain ⟨d0, d1, d2, d3, d4, d5⟩ := (cells_kept hcs hKp (fun e => hbt e)).2 k hlt
          have hb' := (cells_kept hcs hKp (fun e => hbt e)).1
          have t4 := hTB.at 4
          simp only [List.getElem?_toArray, List.getElem?_cons_zero, List.getElem?_cons_succ] at t4
          have t4f := hTB.free 4
          have tl := hTB.lt
          have hsz := hKp.size
          have hne : (Value.slice o5 n5 c5).ownBlock ≠ some tb := fun e => by have := (hown.lt tb e).1; omega
          have hi' : (k : Int) < (l.length : Int) := by omega
          have H1 : Hid _ := hTB
          have H2 : Hid _ := hown
          have H3 : Hid _ := hKp
          have hll := ht.1
          clear hTB hown hKp hcs hz
          clear c0 c2 c3 c4 f1 f2 f3 f4 c1
          go_wp2
          go_region_law
            ((refine step_append_lies _ (by rfl) _ _ _ (by rfl) w.heap.size 53 i0 _ 7 56 Try.underlying48 hi hz0 hz1 hz2 (by rfl) (by decide) (.slice o5 n5 c5) k (tcells (l.take k)) (by rfl) (own_gn H2.out (by with_reducible (repeat (first | exact Gn.refl _ | refine Gn.gr ?_ _ | refine Gn.alloc ?_ _ | refine Gn.drew ?_))))
                ⟨wr.heap.size + 1, 0, none⟩ 1 1 (el l k).tc (by rfl) (by rfl) (fun j u hj => by exact news_new (wr.alloc _) _ 53 _ (by simp only [size_alloc]) j u hj) (by intro u hu; simp [B.tc] at hu; rcases hu with rfl | rfl | rfl | rfl | rfl | rfl | rfl <;> rfl)
                (by omega) (by unfold maxLen; omega) (by omega) (by simp; omega) _ rfl ?_; intro g cap w1 hown1 hgrow hat hlt1; have H4 : Hid _ := TB.kb (TB.grown (show TB wr tb true true ver' (sumW l) (.slice o5 n5 c5) from H1.out) (by with_reducible (repeat (first | exact Gn.refl _ | refine Gn.gr ?_ _ | refine Gn.alloc ?_ _ | refine Gn.drew ?_)))) hgrow (Ne.symm hne); obtain ⟨tl1, ⟨_, _, _, _, hc4⟩, _, _, _, hfz⟩ := TB.facts (show TB w1 tb true true ver' (sumW l) (.slice o5 n5 c5) from H4.out)))
          all_goals
            go_wp2
            go_roundw
            case rel =>
              refine ⟨k + 1, by omega, by go_num, _, TB.set4 (show TB w1 tb true true ver' (sumW l) (.slice o5 n5 c5) from H4.out) _, ?_, ?_, fun e => absurd e (by omega)⟩
              · rw [take_el hlt, tcells_append]
                refine World.ownsRow.kept (row := some tb) (show w1.ownsRow w.heap.size 53 7 _ (k + 1) _ by simpa [tcells] using hown1) (gb_set (gb_refl w1 _) 4 _) (.inr ?_)
                intro e
                have := (hown1.lt tb e).1
                omega
              · exact (Kp.gb (Kp.gn H3.out (show Gn wr _ from (by with_reducible (repeat (first | exact Gn.refl _ | refine Gn.gr ?_ _ | refine Gn.alloc ?_ _ | refine Gn.drew ?_))))) hgrow (fun j e => ((show wr.ownsRow w.heap.size 53 7 (.slice o5 n5 c5) k (tcells (l.take k)) from H2.out).lt j e).1)).set tb 4 _ rfl
            case measure => simp [intOf]; omega
        · have hge : k = l.length := by omega
          subst hge
          have HZ : Hid _ := hz
          clear hz
          go_wp2
          go_end0
          exact ⟨⟨_, rfl⟩, _, hTB, hown, hKp, HZ.out⟩
  · have hnv : ver ≠ ver' := by simpa using hs
    go_enter Try.func14, Try.ntmps14
    go_wp2
    refine wp_region_gr (by kernel_rfl) (by kernel_rfl) ?_
    repeat (go_big_quiet_step (fail))
    refine wpQuiet_nil ?_
    rintro _ ⟨q4, rfl⟩
    go_wp2
    obtain ⟨wq, hwq⟩ : ∃ x, ((w.alloc (.cells #[.int .i64 ver', .slice o l.length c] 36)).gr q4) = x := ⟨_, rfl⟩
    have hgq : Gn w wq := by rw [← hwq]; exact (by with_reducible (repeat (first | exact Gn.refl _ | refine Gn.gr ?_ _ | refine Gn.alloc ?_ _ | refine Gn.drew ?_)))
    have e0 : wq.cell? ⟨w.heap.size, 0, none⟩ = some (.int .i64 ver') := by rw [← hwq, cell?_gr _ _ _ _ (by simp)]; simp
    have e1 : wq.cell? ⟨w.heap.size, 1, none⟩ = some (.slice o l.length c) := by rw [← hwq, cell?_gr _ _ _ _ (by simp)]; simp
    have hslt : w.heap.size < wq.heap.size := World.block_lt_of_cell? wq _ e0
    rw [hwq]
    clear hwq
    have HG : Hid _ := hgq
    clear hgq c0 c1 c2 c3 c4 f1 f2 f3 f4
    have htw : tb ≠ w.heap.size := by omega
    go_region_held3 (fun w' => w'.cell? ⟨w.heap.size, 0, none⟩ = some (.int .i64 ver') ∧ w'.cell? ⟨w.heap.size, 1, none⟩ = some (.slice o l.length c))
      (first | go_keep | (go_split_ands; refine ⟨?_, ?_⟩ <;> (exact gn_cell hg2 (by assumption))))
      (first | (go_at_call 16; refine (HW.out _ ?_).mono ?_; exact Gn.drew HG.out; rintro y w' ⟨rfl, hg2⟩; have HG2 : Hid _ := hg2; obtain ⟨tl, ⟨c0, c1, c2, c3, c4⟩, f1, f2, f3, f4⟩ := TB.facts (TB.grown (TB.grown (show TB w tb true true ver W0 sv from HT.out) (Gn.drew HG.out)) hg2)))
    all_goals
      go_wp2
      go_loopw [38] (fun i wr => ∃ k : Nat, k ≤ l.length ∧ i = .int .i64 k ∧ SetL w tb ver' (sumW l) l k wr) (fun i _ => l.length - (intOf i).toNat)
      case atStart =>
        refine ⟨0, by omega, rfl, .slice none 0 0, ?_, World.ownsRow_nil _ _ _ _, ?_, fun _ => rfl⟩
        · exact TB.set4 (TB.set3 (TB.set2 (TB.set1 (TB.grown (TB.grown (show TB w tb true true ver W0 sv from HT.out) (Gn.drew HG.out)) HG2.out) _) _) _) _
        · exact ((((Kp.of_gn (fun j => j = tb) ((Gn.drew HG.out).trans HG2.out)).set tb 1 _ rfl).set tb 2 _ rfl).set tb 3 _ rfl).set tb 4 _ rfl
      case round =>
        obtain ⟨k, hk, rfl, sv', hTB, hown, hKp, hz⟩ := hrel
        obtain ⟨o5, n5, c5, rfl⟩ : ∃ o n c, sv' = .slice o n c := by
          rcases hown.2 with ⟨rfl, _⟩ | ⟨_, _, _, rfl, _⟩ <;> exact ⟨_, _, _, rfl⟩
        by_cases hlt : k < l.length
        · obtain ⟨b, off, ho, hcs⟩ : ∃ b off, o = some ⟨b, off, none⟩ ∧ Cells w b off l := by
            rcases HV.out with ⟨rfl, _⟩ | ⟨b, off, cap, e, h⟩
            · simp at hlt
            · cases e; exact ⟨b, off, rfl, h⟩
          subst ho
          have hbt : b ≠ tb := SL.ne_tb hcs (by rintro rfl; simp at hlt) HT.out
          obtain ⟨d0, d1, d2, d3, d4, d5⟩ := (cells_kept hcs hKp (fun e => hbt e)).2 k hlt
          have hb' := (cells_kept hcs hKp (fun e => hbt e)).1
          have t4 := hTB.at 4
          simp only [List.getElem?_toArray, List.getElem?_cons_zero, List.getElem?_cons_succ] at t4
          have t4f := hTB.free 4
          have tl := hTB.lt
          have hsz := hKp.size
          have hne : (Value.slice o5 n5 c5).ownBlock ≠ some tb := fun e => by have := (hown.lt tb e).1; omega
          have hi' : (k : Int) < (l.length : Int) := by omega
          have H1 : Hid _ := hTB
          have H2 : Hid _ := hown
          have H3 : Hid _ := hKp
          have hll := ht.1
          clear hTB hown hKp hcs hz
          clear c0 c2 c3 c4 f1 f2 f3 f4 c1
          go_wp2
          go_region_law
            ((refine step_append_lies _ (by rfl) _ _ _ (by rfl) w.heap.size 53 i0 _ 7 56 Try.underlying48 hi hz0 hz1 hz2 (by rfl) (by decide) (.slice o5 n5 c5) k (tcells (l.take k)) (by rfl) (own_gn H2.out (by with_reducible (repeat (first | exact Gn.refl _ | refine Gn.gr ?_ _ | refine Gn.alloc ?_ _ | refine Gn.drew ?_))))
                ⟨wr.heap.size + 1, 0, none⟩ 1 1 (el l k).tc (by rfl) (by rfl) (fun j u hj => by exact news_new (wr.alloc _) _ 53 _ (by simp only [size_alloc]) j u hj) (by intro u hu; simp [B.tc] at hu; rcases hu with rfl | rfl | rfl | rfl | rfl | rfl | rfl <;> rfl)
                (by omega) (by unfold maxLen; omega) (by omega) (by simp; omega) _ rfl ?_; intro g cap w1 hown1 hgrow hat hlt1; have H4 : Hid _ := TB.kb (TB.grown (show TB wr tb true true ver' (sumW l) (.slice o5 n5 c5) from H1.out) (by with_reducible (repeat (first | exact Gn.refl _ | refine Gn.gr ?_ _ | refine Gn.alloc ?_ _ | refine Gn.drew ?_)))) hgrow (Ne.symm hne); obtain ⟨tl1, ⟨_, _, _, _, hc4⟩, _, _, _, hfz⟩ := TB.facts (show TB w1 tb true true ver' (sumW l) (.slice o5 n5 c5) from H4.out)))
          all_goals
            go_wp2
            go_roundw
            case rel =>
              refine ⟨k + 1, by omega, by go_num, _, TB.set4 (show TB w1 tb true true ver' (sumW l) (.slice o5 n5 c5) from H4.out) _, ?_, ?_, fun e => absurd e (by omega)⟩
              · rw [take_el hlt, tcells_append]
                refine World.ownsRow.kept (row := some tb) (show w1.ownsRow w.heap.size 53 7 _ (k + 1) _ by simpa [tcells] using hown1) (gb_set (gb_refl w1 _) 4 _) (.inr ?_)
                intro e
                have := (hown1.lt tb e).1
                omega
              · exact (Kp.gb (Kp.gn H3.out (show Gn wr _ from (by with_reducible (repeat (first | exact Gn.refl _ | refine Gn.gr ?_ _ | refine Gn.alloc ?_ _ | refine Gn.drew ?_))))) hgrow (fun j e => ((show wr.ownsRow w.heap.size 53 7 (.slice o5 n5 c5) k (tcells (l.take k)) from H2.out).lt j e).1)).set tb 4 _ rfl
            case measure => simp [intOf]; omega
        · have hge : k = l.length := by omega
          subst hge
          have HZ : Hid _ := hz
          clear hz
          go_wp2
          go_end0
          exact ⟨⟨_, rfl⟩, _, hTB, hown, hKp, HZ.out⟩
end Go.Proofs.Ytidekhhelljjdaa
