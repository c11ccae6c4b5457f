/- Boxes, rows of numbers, what a step leaves as it was; SameInts. -/
import Derived.Test.YtidekhhelljjdaaBk
import Derived.OneCell
import Derived.Maps.AppendAt
import Derived.OwnWalk
import Derived.Laws.AppendOwn
import Derived.Deep.QuietTactic
import Derived.BigQuiet
import Derived.Deep.DeepCutAuto
namespace Go.Proofs.Ytidekhhelljjdaa
open Go.RowKit

/-- Block e of a world is one cell that holds v. -/
def Box (w : World) (e : Nat) (t : TypeId) (v : Value) : Prop := w.heap[e]? = some (.cells #[v] t (0, 0))
theorem Box.cell {w : World} {e : Nat} {t : TypeId} {v : Value} (h : Box w e t v) : w.cell? ⟨e, 0, none⟩ = some v := cell_of_one h
theorem Box.free {w : World} {e : Nat} {t : TypeId} {v : Value} (h : Box w e t v) : w.frozen? ⟨e, 0, none⟩ = false := free_of_one h
theorem Box.lt {w : World} {e : Nat} {t : TypeId} {v : Value} (h : Box w e t v) : e < w.heap.size := lt_of_block h
theorem Box.set {w : World} {e : Nat} {t : TypeId} {v : Value} (h : Box w e t v) (u : Value) : Box (w.setCell ⟨e, 0, none⟩ u) e t u := one_setCell h
theorem Box.gr {w : World} {e : Nat} {t : TypeId} {v : Value} (h : Box w e t v) (p : Gr) : Box (w.gr p) e t v := (heap_gr_old w p h.lt).trans h
theorem Box.grown {w w' : World} {e : Nat} {t : TypeId} {v : Value} (h : Box w e t v) (hg : Gn w w') : Box w' e t v := by
  obtain ⟨p, rfl⟩ := hg
  exact h.gr p
theorem Box.alloc {w : World} {e : Nat} {t : TypeId} {v : Value} (h : Box w e t v) (o : Obj) : Box (w.alloc o) e t v := h.grown (Gn.refl _ |>.alloc o)
theorem Box.kept {w w' : World} {row : Option Nat} {e : Nat} {t : TypeId} {v : Value} (h : Box w e t v) (hg : w.grownBy w' row) (hr : some e ≠ row) : Box w' e t v := (hg.block e h.lt hr).trans h
theorem gb_refl (w : World) (row : Option Nat) : w.grownBy w row := ⟨rfl, rfl, rfl, Nat.le_refl _, fun _ _ _ => rfl⟩
theorem gb_gn {a w w' : World} {row : Option Nat} (h : a.grownBy w row) (hg : Gn w w') : a.grownBy w' row := by
  obtain ⟨p, rfl⟩ := hg
  exact ⟨h.os, h.tape, h.output, by rw [size_gr]; have := h.size; omega, fun k hk hr => (heap_gr_old w p (by have := h.size; omega)).trans (h.block k hk hr)⟩
theorem gb_gr {a w : World} {row : Option Nat} (h : a.grownBy w row) (p : Gr) : a.grownBy (w.gr p) row := gb_gn h ⟨p, rfl⟩
theorem gb_alloc {a w : World} {row : Option Nat} (h : a.grownBy w row) (o : Obj) : a.grownBy (w.alloc o) row := gb_gn h (Gn.refl _ |>.alloc o)
theorem gb_set {a w : World} {e : Nat} (h : a.grownBy w (some e)) (i : Nat) (v : Value) : a.grownBy (w.setCell ⟨e, i, none⟩ v) (some e) := by
  refine ⟨h.os, h.tape, h.output, by unfold World.setCell; simpa using h.size, fun k hk hr => ?_⟩
  have : k ≠ e := fun hh => hr (by rw [hh])
  rw [← h.block k hk hr]
  unfold World.setCell
  simp only [Array.getElem?_modify]
  rw [if_neg (fun hh => this hh.symm)]
theorem Cells.kept {w w' : World} {row : Option Nat} {b off : Nat} {l : List B} (h : Cells w b off l) (hg : w.grownBy w' row) (hr : some b ≠ row) : Cells w' b off l := by
  obtain ⟨hb, hc⟩ := h
  have e : ∀ i, w'.cell? ⟨b, i, none⟩ = w.cell? ⟨b, i, none⟩ := fun i => World.cell?_of_block (hg.block b hb hr)
  refine ⟨by have := hg.size; omega, fun k hk => ?_⟩
  simp only [e]
  exact hc k hk

/-- A world of which only one box may have been written, written out. -/
theorem gb_form {W w' : World} {e : Nat} {t : TypeId} {v u : Value} (h : Box W e t v) (hg : W.grownBy w' (some e)) (hb : Box w' e t u) : ∃ p : Gr, w' = (W.setCell ⟨e, 0, none⟩ u).gr p := by
  apply Gn.of_below
  have hsz : (W.setCell ⟨e, 0, none⟩ u).heap.size = W.heap.size := by unfold World.setCell; simp
  refine ⟨hg.os, hg.tape, hg.output, by rw [hsz]; exact hg.size, fun k hk => ?_⟩
  rw [hsz] at hk
  by_cases hke : k = e
  · subst hke
    exact (show w'.heap[k]? = _ from hb).trans (show _ = _ from h.set u).symm
  · rw [hg.block k hk (by simpa using hke)]
    unfold World.setCell
    simp only [Array.getElem?_modify]
    rw [if_neg (fun hh => hke hh.symm)]

theorem drop_el {l : List B} {k : Nat} (h : k < l.length) : l.drop k = el l k :: l.drop (k + 1) := by
  rw [List.drop_eq_getElem_cons h]
  simp [el, h]
theorem size_alloc (w : World) (o : Obj) : (w.alloc o).heap.size = w.heap.size + 1 := by unfold World.alloc; simp
theorem box_new (w : World) (t : TypeId) (v : Value) : Box (w.alloc (.cells #[v] t)) w.heap.size t v := by unfold Box World.alloc; simp
theorem box_new_set (w : World) (t : TypeId) (v u : Value) : (w.alloc (.cells #[v] t)).setCell ⟨w.heap.size, 0, none⟩ u = w.alloc (.cells #[u] t) := by
  unfold World.setCell World.alloc
  congr 1
  apply Array.ext_getElem?
  intro k
  simp only [Array.getElem?_modify, Array.getElem?_push]
  by_cases hk : w.heap.size = k
  · subst hk
    simp
  · have : ¬ k = w.heap.size := fun h => hk h.symm
    simp [hk, this]
theorem own_gn {w w' : World} {base : Nat} {e : TypeId} {size : Nat} {v : Value} {n : Nat} {xs : List Value} (h : w.ownsRow base e size v n xs) (hg : Gn w w') : w'.ownsRow base e size v n xs :=
  h.kept (gb_gn (gb_refl w none) hg) (Classical.em _)
theorem info_int : (Try.prog.info? 3).map (fun i => (i.zero, i.size, i.bytes)) = some (some (.int .i64 0), 1, 8) := by kernel_rfl
def ints (l : List Int) : List Value := l.map (Value.int .i64)
theorem ints_append (l m : List Int) : ints (l ++ m) = ints l ++ ints m := by simp [ints]
def inAt (l : List Int) (k : Nat) : Int := l.getD k 0
/-- A slice value reads as a list of numbers. -/
def IL (w : World) (v : Value) (l : List Int) : Prop :=
  (l = [] ∧ v = .slice none 0 0) ∨ ∃ b cap, v = .slice (some ⟨b, 0, none⟩) l.length cap ∧ b < w.heap.size ∧ ∀ k, k < l.length → w.cell? ⟨b, k, none⟩ = some (.int .i64 (inAt l k))
theorem IL.grown {w w' : World} {v : Value} {l : List Int} (h : IL w v l) (hg : Gn w w') : IL w' v l := by
  rcases h with h | ⟨b, cap, rfl, hb, hc⟩
  · exact .inl h
  · obtain ⟨p, rfl⟩ := hg
    refine .inr ⟨b, cap, rfl, by rw [size_gr]; omega, fun k hk => ?_⟩
    rw [cell?_gr w p b _ hb]
    exact hc k hk
theorem IL.of_own {w : World} {base : Nat} {v : Value} {l : List Int} (h : w.ownsRow base 3 1 v l.length (ints l)) : IL w v l := by
  rcases h with ⟨h1, ⟨rfl, h2⟩ | ⟨g, cap, cur, rfl, hb, hg, hn, hm, hs, ht⟩⟩
  · exact .inl ⟨List.length_eq_zero_iff.1 h2, rfl⟩
  · refine .inr ⟨g, cap, rfl, lt_of_block hg, fun k hk => ?_⟩
    have h3 : (ints l)[k]? = some (.int .i64 (inAt l k)) := by simp [ints, inAt, hk]
    rw [← ht, List.getElem?_take] at h3
    rw [if_pos (by omega)] at h3
    simp only [World.cell?, hg]
    rw [← h3]
    simp
theorem row_int (W : World) (x : Int) (n j : Nat) (u : Value) (hn : n = W.heap.size) (hj : [Value.int .i64 x][j]? = some u) :
    (W.alloc (.cells #[.int .i64 x] 3)).cell? (Addr.add ⟨n, 0, none⟩ j) = some u := by
  subst hn
  have hadd : Addr.add ⟨W.heap.size, 0, none⟩ j = ⟨W.heap.size, j, none⟩ := by
    unfold Addr.add
    split <;> simp_all
  have : (W.alloc (.cells #[.int .i64 x] 3)).heap[W.heap.size]? = some (.cells #[.int .i64 x] 3) := by
    unfold World.alloc
    simp
  rw [hadd]
  simp only [World.cell?, this]
  rw [← hj]
  simp

theorem sameints_is (v v' : Value) (l : List Int) (w : World) (h : IL w v l) (h' : IL w v' l) (ht : l.length ≤ 64) : Calls Try.prog 12 #[v, v'] w fun y w' => y = .returned (.bool true) ∧ Gn w w' := by
  rcases h with ⟨rfl, rfl⟩ | ⟨b, cap, rfl, hb, hc⟩
  · rcases h' with ⟨_, rfl⟩ | ⟨b', cap', rfl, hb', hc'⟩
    all_goals
      go_enter Try.func12, Try.ntmps12
      go_wp2
      go_loop [5] (fun i => i = .int .i64 0) (fun _ => 0)
      case atStart => rfl
      case round =>
        subst hrel
        go_wp2
        go_ret
        exact ⟨rfl, (by repeat (first | exact Gn.refl _ | refine Gn.gr ?_ _ | refine Gn.alloc ?_ _))⟩
  · rcases h' with ⟨rfl, rfl⟩ | ⟨b', cap', rfl, hb', hc'⟩
    · go_enter Try.func12, Try.ntmps12
      go_wp2
      go_loop [5] (fun i => i = .int .i64 0) (fun _ => 0)
      case atStart => rfl
      case round =>
        subst hrel
        go_wp2
        go_ret
        exact ⟨rfl, (by repeat (first | exact Gn.refl _ | refine Gn.gr ?_ _ | refine Gn.alloc ?_ _))⟩
    · go_enter Try.func12, Try.ntmps12
      go_wp2
      go_loopw [5] (fun i wr => ∃ k : Nat, k ≤ l.length ∧ i = .int .i64 k ∧ Gn w wr) (fun i _ => l.length - (intOf i).toNat)
      case atStart => exact ⟨0, by omega, rfl, (by repeat (first | exact Gn.refl _ | refine Gn.gr ?_ _ | refine Gn.alloc ?_ _))⟩
      case round =>
        obtain ⟨k, hk, rfl, p, rfl⟩ := hrel
        by_cases hlt : k < l.length
        · have c0 := hc k hlt
          have d0 := hc' k hlt
          clear hc hc'
          have hi : (k : Int) < (l.length : Int) := by omega
          go_wp2
          refine wp_region_gr (by kernel_rfl) (by kernel_rfl) ?_
          repeat (go_big_quiet_step (fail))
          refine wpQuiet_nil ?_
          rintro _ ⟨q4, rfl⟩
          go_wp2
          go_roundw
          case rel => exact ⟨k + 1, by omega, by go_num, (by repeat (first | exact Gn.refl _ | refine Gn.gr ?_ _ | refine Gn.alloc ?_ _))⟩
          case measure => simp [intOf]; omega
        · have hge : k = l.length := by omega
          subst hge
          go_wp2
          go_ret
          exact ⟨rfl, (by repeat (first | exact Gn.refl _ | refine Gn.gr ?_ _ | refine Gn.alloc ?_ _))⟩

end Go.Proofs.Ytidekhhelljjdaa
