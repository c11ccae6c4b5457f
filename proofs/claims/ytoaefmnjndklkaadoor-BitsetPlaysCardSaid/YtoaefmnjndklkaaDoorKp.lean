/- What a step leaves as it was: blocks of a set apart; a row of numbers. -/
import Derived.Test.YtoaefmnjndklkaaDoorGr
import Derived.LoopTactic
import Derived.OneCell
import Derived.Maps.AppendAt
import Derived.OwnWalk
import Derived.Deep.QuietTactic
import Derived.BigQuiet
import Derived.Deep.DeepCutAuto
import Derived.Deep.RegionWith
import Derived.Deep.RegionHeld3
namespace Go.Proofs.YtoaefmnjndklkaaDoor
open Go.RowKit

/-- Block e of a world is one cell that holds v. -/
def Box (w : World) (e : Nat) (t : TypeId) (v : Value) : Prop := w.heap[e]? = some (.cells #[v] t (0, 0))
theorem Box.cell {w : World} {e : Nat} {t : TypeId} {v : Value} (h : Box w e t v) : w.cell? ⟨e, 0, none⟩ = some v := cell_of_one h
theorem Box.free {w : World} {e : Nat} {t : TypeId} {v : Value} (h : Box w e t v) : w.frozen? ⟨e, 0, none⟩ = false := free_of_one h
theorem Box.lt {w : World} {e : Nat} {t : TypeId} {v : Value} (h : Box w e t v) : e < w.heap.size := lt_of_block h
theorem Box.set {w : World} {e : Nat} {t : TypeId} {v : Value} (h : Box w e t v) (u : Value) : Box (w.setCell ⟨e, 0, none⟩ u) e t u := one_setCell h
theorem Box.gr {w : World} {e : Nat} {t : TypeId} {v : Value} (h : Box w e t v) (p : Gr) : Box (w.gr p) e t v := (heap_gr_old w p h.lt).trans h
theorem Box.grown {w w' : World} {e : Nat} {t : TypeId} {v : Value} (h : Box w e t v) (hg : Gn w w') : Box w' e t v := by
  obtain ⟨p, rfl⟩ := hg
  exact h.gr p
theorem Box.alloc {w : World} {e : Nat} {t : TypeId} {v : Value} (h : Box w e t v) (o : Obj) : Box (w.alloc o) e t v := h.grown (Gn.refl _ |>.alloc o)
theorem Box.kept {w w' : World} {row : Option Nat} {e : Nat} {t : TypeId} {v : Value} (h : Box w e t v) (hg : w.grownBy w' row) (hr : some e ≠ row) : Box w' e t v := (hg.block e h.lt hr).trans h
theorem gb_refl (w : World) (row : Option Nat) : w.grownBy w row := ⟨rfl, rfl, rfl, Nat.le_refl _, fun _ _ _ => rfl⟩
theorem gb_gn {a w w' : World} {row : Option Nat} (h : a.grownBy w row) (hg : Gn w w') : a.grownBy w' row := by
  obtain ⟨p, rfl⟩ := hg
  exact ⟨h.os, h.tape, h.output, by rw [size_gr]; have := h.size; omega, fun k hk hr => (heap_gr_old w p (by have := h.size; omega)).trans (h.block k hk hr)⟩
theorem gb_gr {a w : World} {row : Option Nat} (h : a.grownBy w row) (p : Gr) : a.grownBy (w.gr p) row := gb_gn h ⟨p, rfl⟩
theorem gb_alloc {a w : World} {row : Option Nat} (h : a.grownBy w row) (o : Obj) : a.grownBy (w.alloc o) row := gb_gn h (Gn.refl _ |>.alloc o)
theorem gb_set {a w : World} {e : Nat} (h : a.grownBy w (some e)) (i : Nat) (v : Value) : a.grownBy (w.setCell ⟨e, i, none⟩ v) (some e) := by
  refine ⟨h.os, h.tape, h.output, by unfold World.setCell; simpa using h.size, fun k hk hr => ?_⟩
  have : k ≠ e := fun hh => hr (by rw [hh])
  rw [← h.block k hk hr]
  unfold World.setCell
  simp only [Array.getElem?_modify]
  rw [if_neg (fun hh => this hh.symm)]
/-- A world of which only one box may have been written, written out. -/
theorem gb_form {W w' : World} {e : Nat} {t : TypeId} {v u : Value} (h : Box W e t v) (hg : W.grownBy w' (some e)) (hb : Box w' e t u) : ∃ p : Gr, w' = (W.setCell ⟨e, 0, none⟩ u).gr p := by
  apply Gn.of_below
  have hsz : (W.setCell ⟨e, 0, none⟩ u).heap.size = W.heap.size := by unfold World.setCell; simp
  refine ⟨hg.os, hg.tape, hg.output, by rw [hsz]; exact hg.size, fun k hk => ?_⟩
  rw [hsz] at hk
  by_cases hke : k = e
  · subst hke
    exact (show w'.heap[k]? = _ from hb).trans (show _ = _ from h.set u).symm
  · rw [hg.block k hk (by simpa using hke)]
    unfold World.setCell
    simp only [Array.getElem?_modify]
    rw [if_neg (fun hh => hke hh.symm)]

theorem size_alloc (w : World) (o : Obj) : (w.alloc o).heap.size = w.heap.size + 1 := by unfold World.alloc; simp
theorem box_new (w : World) (t : TypeId) (v : Value) : Box (w.alloc (.cells #[v] t)) w.heap.size t v := by unfold Box World.alloc; simp
theorem box_new_set (w : World) (t : TypeId) (v u : Value) : (w.alloc (.cells #[v] t)).setCell ⟨w.heap.size, 0, none⟩ u = w.alloc (.cells #[u] t) := by
  unfold World.setCell World.alloc
  congr 1
  apply Array.ext_getElem?
  intro k
  simp only [Array.getElem?_modify, Array.getElem?_push]
  by_cases hk : w.heap.size = k
  · subst hk
    simp
  · have : ¬ k = w.heap.size := fun h => hk h.symm
    simp [hk, this]
/-- What a step leaves as it was: all blocks but those of S. -/
structure Kp (S : Nat → Prop) (w w' : World) : Prop where
  os : w'.os = w.os
  tape : w'.tape = w.tape
  output : w'.output = w.output
  size : w.heap.size ≤ w'.heap.size
  block : ∀ k, k < w.heap.size → ¬ S k → w'.heap[k]? = w.heap[k]?
theorem Kp.refl (S : Nat → Prop) (w : World) : Kp S w w := ⟨rfl, rfl, rfl, Nat.le_refl _, fun _ _ _ => rfl⟩
theorem Kp.trans {S : Nat → Prop} {a b c : World} (h : Kp S a b) (h' : Kp S b c) : Kp S a c :=
  ⟨h'.os.trans h.os, h'.tape.trans h.tape, h'.output.trans h.output, Nat.le_trans h.size h'.size, fun k hk hs => (h'.block k (Nat.lt_of_lt_of_le hk h.size) hs).trans (h.block k hk hs)⟩
theorem Kp.mono {S S' : Nat → Prop} {a b : World} (h : Kp S a b) (hs : ∀ k, k < a.heap.size → S k → S' k) : Kp S' a b := ⟨h.os, h.tape, h.output, h.size, fun k hk hn => h.block k hk (fun hh => hn (hs k hk hh))⟩
theorem Kp.of_gb {S : Nat → Prop} {a b : World} {row : Option Nat} (h : a.grownBy b row) (hs : ∀ k, row = some k → S k) : Kp S a b := ⟨h.os, h.tape, h.output, h.size, fun k hk hn => h.block k hk (fun e => hn (hs k e.symm))⟩
theorem Kp.of_gn (S : Nat → Prop) {a b : World} (h : Gn a b) : Kp S a b := Kp.of_gb (gb_gn (gb_refl a none) h) (fun k e => by cases e)
theorem Kp.gn {S : Nat → Prop} {a b c : World} (h : Kp S a b) (h' : Gn b c) : Kp S a c := h.trans (Kp.of_gn S h')
theorem Kp.set {S : Nat → Prop} {a b : World} (h : Kp S a b) (e i : Nat) (v : Value) (he : S e) : Kp S a (b.setCell ⟨e, i, none⟩ v) :=
  h.trans (Kp.of_gb (gb_set (gb_refl _ _) i v) (fun k hk => by cases hk; exact he))
theorem Kp.to_gn {S : Nat → Prop} {a b : World} (h : Kp S a b) (hs : ∀ k, S k → a.heap.size ≤ k) : Gn a b :=
  Gn.of_below ⟨h.os, h.tape, h.output, h.size, fun k hk => h.block k hk (fun hh => by have := hs k hh; omega)⟩
theorem Kp.cell {S : Nat → Prop} {a b : World} {e i : Nat} {v : Value} (h : Kp S a b) (hc : a.cell? ⟨e, i, none⟩ = some v) (hs : ¬ S e) : b.cell? ⟨e, i, none⟩ = some v :=
  (World.cell?_of_block (h.block e (World.block_lt_of_cell? a _ hc) hs)).trans hc

theorem gn_cell {a b : World} {e i : Nat} {v : Value} (h : Gn a b) (hc : a.cell? ⟨e, i, none⟩ = some v) : b.cell? ⟨e, i, none⟩ = some v := (Kp.of_gn (fun _ => False) h).cell hc (fun hh => hh)

/-- A row of numbers that fills a block's head. -/
def Nums (w : World) (nb n : Nat) (ns : Nat → Int) : Prop := nb < w.heap.size ∧ ∀ i, i < n → w.cell? ⟨nb, i, none⟩ = some (.int .i64 (ns i)) ∧ w.frozen? ⟨nb, i, none⟩ = false
theorem Nums.kept {S : Nat → Prop} {w w' : World} {nb n : Nat} {ns : Nat → Int} (h : Nums w nb n ns) (hk : Kp S w w') (hs : ¬ S nb) : Nums w' nb n ns :=
  ⟨by have := hk.size; have := h.1; omega, fun i hi => ⟨hk.cell (h.2 i hi).1 hs, (World.frozen?_of_block (hk.block nb h.1 hs)).trans (h.2 i hi).2⟩⟩
theorem Nums.grown {w w' : World} {nb n : Nat} {ns : Nat → Int} (h : Nums w nb n ns) (hg : Gn w w') : Nums w' nb n ns := h.kept (Kp.of_gn (fun _ => False) hg) (fun e => e)
theorem Nums.set {w : World} {nb n : Nat} {ns : Nat → Int} (h : Nums w nb n ns) (i : Nat) (x : Int) : Nums (w.setCell ⟨nb, i, none⟩ (.int .i64 x)) nb n (fun j => if j = i then x else ns j) := by
  have hg : w.grownBy (w.setCell ⟨nb, i, none⟩ (.int .i64 x)) (some nb) := gb_set (gb_refl _ _) _ _
  refine ⟨by have := hg.size; have := h.1; omega, fun j hj => ?_⟩
  have hr := h.2 j hj
  rw [World.frozen?_setCell]
  refine ⟨?_, hr.2⟩
  by_cases e : j = i
  · subst e
    show _ = some (Value.int .i64 (if j = j then x else ns j))
    rw [if_pos rfl]
    exact World.cell?_setCell_same _ _ _ hr.1
  · show _ = some (Value.int .i64 (if j = i then x else ns j))
    rw [if_neg e, World.cell?_setCell_other _ _ _ _ (by intro hh; injection hh with _ h2; exact e h2.symm)]
    exact hr.1
theorem Nums.congr {w : World} {nb n : Nat} {ns ns' : Nat → Int} (h : Nums w nb n ns) (e : ∀ j, j < n → ns j = ns' j) : Nums w nb n ns' := ⟨h.1, fun i hi => by rw [← e i hi]; exact h.2 i hi⟩
theorem nums_new (w : World) (n : Nat) (t : TypeId) (cs : Array Value) (h : cs = Array.replicate n (.int .i64 0)) : Nums (w.alloc (.cells cs t)) w.heap.size n (fun _ => 0) := by
  subst h
  have hb := heap_alloc_new w (.cells (Array.replicate n (Value.int .i64 0)) t)
  refine ⟨by simp, fun i hi => ⟨?_, by unfold World.frozen?; rw [hb]; simp⟩⟩
  unfold World.cell?
  rw [hb]
  simp [hi]
end Go.Proofs.YtoaefmnjndklkaaDoor
