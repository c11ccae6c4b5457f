/- The contracts of IndexFunc, ContainsFunc, With, Has, At. -/
import Derived.Test.YthcmhegbmpnepaaBk
import Derived.OneCell
import Derived.Maps.AppendAt
namespace Go.Proofs.Ythcmhegbmpnepaa
open Go.RowKit

/-- Block e of a world is one cell that holds v. -/
def Box (w : World) (e : Nat) (t : TypeId) (v : Value) : Prop := w.heap[e]? = some (.cells #[v] t (0, 0))
theorem Box.cell {w : World} {e : Nat} {t : TypeId} {v : Value} (h : Box w e t v) : w.cell? ⟨e, 0, none⟩ = some v := cell_of_one h
theorem Box.free {w : World} {e : Nat} {t : TypeId} {v : Value} (h : Box w e t v) : w.frozen? ⟨e, 0, none⟩ = false := free_of_one h
theorem Box.lt {w : World} {e : Nat} {t : TypeId} {v : Value} (h : Box w e t v) : e < w.heap.size := lt_of_block h
theorem Box.set {w : World} {e : Nat} {t : TypeId} {v : Value} (h : Box w e t v) (u : Value) : Box (w.setCell ⟨e, 0, none⟩ u) e t u := one_setCell h
theorem Box.gr {w : World} {e : Nat} {t : TypeId} {v : Value} (h : Box w e t v) (p : Gr) : Box (w.gr p) e t v := (heap_gr_old w p h.lt).trans h
theorem Box.grown {w w' : World} {e : Nat} {t : TypeId} {v : Value} (h : Box w e t v) (hg : Gn w w') : Box w' e t v := by
  obtain ⟨p, rfl⟩ := hg
  exact h.gr p
theorem Box.alloc {w : World} {e : Nat} {t : TypeId} {v : Value} (h : Box w e t v) (o : Obj) : Box (w.alloc o) e t v := h.grown (Gn.refl _ |>.alloc o)
theorem Box.kept {w w' : World} {row : Option Nat} {e : Nat} {t : TypeId} {v : Value} (h : Box w e t v) (hg : w.grownBy w' row) (hr : some e ≠ row) : Box w' e t v := (hg.block e h.lt hr).trans h
theorem gb_refl (w : World) (row : Option Nat) : w.grownBy w row := ⟨rfl, rfl, rfl, Nat.le_refl _, fun _ _ _ => rfl⟩
theorem gb_gn {a w w' : World} {row : Option Nat} (h : a.grownBy w row) (hg : Gn w w') : a.grownBy w' row := by
  obtain ⟨p, rfl⟩ := hg
  exact ⟨h.os, h.tape, h.output, by rw [size_gr]; have := h.size; omega, fun k hk hr => (heap_gr_old w p (by have := h.size; omega)).trans (h.block k hk hr)⟩
theorem gb_gr {a w : World} {row : Option Nat} (h : a.grownBy w row) (p : Gr) : a.grownBy (w.gr p) row := gb_gn h ⟨p, rfl⟩
theorem gb_alloc {a w : World} {row : Option Nat} (h : a.grownBy w row) (o : Obj) : a.grownBy (w.alloc o) row := gb_gn h (Gn.refl _ |>.alloc o)
theorem gb_set {a w : World} {e : Nat} (h : a.grownBy w (some e)) (i : Nat) (v : Value) : a.grownBy (w.setCell ⟨e, i, none⟩ v) (some e) := by
  refine ⟨h.os, h.tape, h.output, by unfold World.setCell; simpa using h.size, fun k hk hr => ?_⟩
  have : k ≠ e := fun hh => hr (by rw [hh])
  rw [← h.block k hk hr]
  unfold World.setCell
  simp only [Array.getElem?_modify]
  rw [if_neg (fun hh => this hh.symm)]
theorem Cells.kept {w w' : World} {row : Option Nat} {b off : Nat} {l : List B} (h : Cells w b off l) (hg : w.grownBy w' row) (hr : some b ≠ row) : Cells w' b off l := by
  obtain ⟨hb, hc⟩ := h
  have e : ∀ i, w'.cell? ⟨b, i, none⟩ = w.cell? ⟨b, i, none⟩ := fun i => World.cell?_of_block (hg.block b hb hr)
  refine ⟨by have := hg.size; omega, fun k hk => ?_⟩
  simp only [e]
  exact hc k hk

/-- A world of which only one box may have been written, written out. -/
theorem gb_form {W w' : World} {e : Nat} {t : TypeId} {v u : Value} (h : Box W e t v) (hg : W.grownBy w' (some e)) (hb : Box w' e t u) : ∃ p : Gr, w' = (W.setCell ⟨e, 0, none⟩ u).gr p := by
  apply Gn.of_below
  have hsz : (W.setCell ⟨e, 0, none⟩ u).heap.size = W.heap.size := by unfold World.setCell; simp
  refine ⟨hg.os, hg.tape, hg.output, by rw [hsz]; exact hg.size, fun k hk => ?_⟩
  rw [hsz] at hk
  by_cases hke : k = e
  · subst hke
    exact (show w'.heap[k]? = _ from hb).trans (show _ = _ from h.set u).symm
  · rw [hg.block k hk (by simpa using hke)]
    unfold World.setCell
    simp only [Array.getElem?_modify]
    rw [if_neg (fun hh => hke hh.symm)]

theorem at1_is (b : B) (e m : Nat) (s n : Int) (w : World) (he : Box w e 3 (.int .i64 s)) (hm : w.cell? ⟨m, 0, none⟩ = some (.int .i64 n)) (hne : e ≠ m)
    (hs : -9223372036854775808 ≤ s + b.wt ∧ s + b.wt ≤ 9223372036854775807) :
    Calls Try.prog 21 #[b.val, .pointer (some ⟨e, 0, none⟩), .pointer (some ⟨m, 0, none⟩)] w fun x w' => x = .returned (.bool (decide (n < s + b.wt))) ∧ Box w' e 3 (.int .i64 (s + b.wt)) ∧ w.grownBy w' (some e) := by
  unfold B.val
  have c1 := he.cell
  have c2 := he.free
  have c3 := he.lt
  have c4 : m < w.heap.size := World.block_lt_of_cell? w _ hm
  have hne' := hne.symm
  go_enter Try.func21, Try.ntmps21
  go_wp2
  go_ret
  refine ⟨rfl, ?_, ?_⟩
  · exact (he.set _).alloc _
  · exact gb_alloc (gb_set (gb_refl _ _) _ _) _

/-- The place of the backend in whose span n is. -/
def pos : List B → Int → Nat
  | [], _ => 0
  | b :: l, n => if n < b.wt then 0 else pos l (n - b.wt) + 1
theorem drop_el {l : List B} {k : Nat} (h : k < l.length) : l.drop k = el l k :: l.drop (k + 1) := by
  rw [List.drop_eq_getElem_cons h]
  simp [el, h]
theorem pos_le (l : List B) (n : Int) : pos l n ≤ l.length := by
  induction l generalizing n with
  | nil => simp [pos]
  | cons b l ih => unfold pos; split <;> simp; exact ih _
def ixV (l : List B) (n : Int) : Int := if pos l n < l.length then pos l n else -1

theorem pos_hit {l : List B} {k : Nat} {n s : Int} (hk : k < l.length) (hp : pos l n = k + pos (l.drop k) (n - s)) (h : n < s + (el l k).wt) : ixV l n = k := by
  rw [drop_el hk, pos, if_pos (by omega)] at hp
  unfold ixV
  rw [hp, if_pos (by omega)]
  simp
theorem pos_next {l : List B} {k : Nat} {n s : Int} (hk : k < l.length) (hp : pos l n = k + pos (l.drop k) (n - s)) (h : ¬ n < s + (el l k).wt) :
    pos l n = k + 1 + pos (l.drop (k + 1)) (n - (s + (el l k).wt)) := by
  rw [drop_el hk, pos, if_neg (by omega)] at hp
  rw [show n - (s + (el l k).wt) = n - s - (el l k).wt by omega]
  omega
theorem pos_end {l : List B} {n s : Int} (hp : pos l n = l.length + pos (l.drop l.length) (n - s)) : ixV l n = -1 := by
  unfold ixV
  rw [if_neg (by omega)]
theorem sum_take {l : List B} {k : Nat} (h : k < l.length) : sumW (l.take (k + 1)) = sumW (l.take k) + (el l k).wt := by
  rw [take_el h, sumW_append]; simp [sumW]

set_option maxHeartbeats 1000000 in
theorem ixA_is (v : Value) (l : List B) (e m : Nat) (n : Int) (w : World) (h : SL w v l) (ht : Tame l) (he : Box w e 3 (.int .i64 0)) (hm : w.cell? ⟨m, 0, none⟩ = some (.int .i64 n)) (hne : e ≠ m)
    (hv : ∀ b off cap k, v = .slice (some ⟨b, off, none⟩) k cap → b ≠ e) :
    Calls Try.prog 20 #[v, .func (.func 21) #[] #[.pointer (some ⟨e, 0, none⟩), .pointer (some ⟨m, 0, none⟩)]] w fun x w' => x = .returned (.int .i64 (ixV l n)) ∧ w.grownBy w' (some e) ∧ ∃ s, Box w' e 3 (.int .i64 s) := by
  rcases h with ⟨rfl, rfl⟩ | ⟨b, off, cap, rfl, hb, hc⟩
  · go_enter Try.func20, Try.ntmps20
    go_wp2
    go_loop [8] (fun i => i = .int .i64 0) (fun _ => 0)
    case atStart => rfl
    case round =>
      subst hrel
      go_wp2
      go_ret
      exact ⟨rfl, gb_refl _ _, _, he⟩
  · have hl := ht.1
    have hbe := hv b off cap _ rfl
    clear hv
    go_enter Try.func20, Try.ntmps20
    go_wp2
    go_loopw [8] (fun i wr => ∃ (k : Nat), k ≤ l.length ∧ i = .int .i64 k ∧ Box wr e 3 (.int .i64 (sumW (l.take k))) ∧ w.grownBy wr (some e) ∧ pos l n = k + pos (l.drop k) (n - sumW (l.take k))) (fun i _ => l.length - (intOf i).toNat)
    case atStart => exact ⟨0, by omega, rfl, he, gb_refl _ _, by simp [sumW]⟩
    case round =>
      obtain ⟨k, hk, rfl, hbox, hgb, hp⟩ := hrel
      have hs := ht.sum k hk
      have hs1 := fun h : k < l.length => ht.2 _ (el_mem h)
      have hck := (Cells.kept ⟨hb, hc⟩ hgb (by simp; exact hbe)).2 k
      have hmm : _ = some (Value.int .i64 n) := hgb.cell hm (by simp; exact hne.symm)
      clear hc hm
      have HP : Hid _ := hp
      clear hp
      go_wp2_with (go_at_call 21; refine (at1_is (el l k) e m _ n _ hbox hmm hne (by omega)).mono ?_; rintro x w' ⟨rfl, hbox', hgb'⟩)
      · go_ret
        exact ⟨int_ret (pos_hit (by assumption) HP.out (by assumption)).symm, hgb.trans hgb', _, hbox'⟩
      · have hlt : k < l.length := by assumption
        go_roundw
        case rel => exact ⟨k + 1, by omega, by go_num, by rw [sum_take hlt]; exact hbox', hgb.trans hgb', by rw [sum_take hlt]; exact pos_next hlt HP.out (by omega)⟩
        case measure => simp [intOf]; omega
      · have hge : k = l.length := by omega
        subst hge
        go_ret
        exact ⟨int_ret (pos_end HP.out).symm, hgb, _, hbox⟩

def B0 : B := ⟨0, 0, 0, false, 0, 0⟩
def atB (l : List B) (n : Int) : B := if 0 ≤ n ∧ pos l n < l.length then el l (pos l n) else B0
def atOk (l : List B) (n : Int) : Bool := decide (0 ≤ n ∧ pos l n < l.length)
theorem size_alloc (w : World) (o : Obj) : (w.alloc o).heap.size = w.heap.size + 1 := by unfold World.alloc; simp
theorem box_new (w : World) (t : TypeId) (v : Value) : Box (w.alloc (.cells #[v] t)) w.heap.size t v := by unfold Box World.alloc; simp
theorem box_new_set (w : World) (t : TypeId) (v u : Value) : (w.alloc (.cells #[v] t)).setCell ⟨w.heap.size, 0, none⟩ u = w.alloc (.cells #[u] t) := by
  unfold World.setCell World.alloc
  congr 1
  apply Array.ext_getElem?
  intro k
  simp only [Array.getElem?_modify, Array.getElem?_push]
  by_cases hk : w.heap.size = k
  · subst hk
    simp
  · have : ¬ k = w.heap.size := fun h => hk h.symm
    simp [hk, this]
theorem at_call (l : List B) (n : Int) (w : World) (v : Value) (o1 o3 : Obj) (h : SL w v l) (ht : Tame l) :
    Calls Try.prog 20 #[v, .func (.func 21) #[] #[.pointer (some ⟨w.heap.size + 1 + 1 + 1, 0, none⟩), .pointer (some ⟨w.heap.size + 1, 0, none⟩)]]
      ((((w.alloc o1).alloc (.cells #[.int .i64 n] 3)).alloc o3).alloc (.cells #[.int .i64 0] 3)) fun x w' => x = .returned (.int .i64 (ixV l n)) ∧
        ∃ (s : Int) (p : Gr), w' = (((((w.alloc o1).alloc (.cells #[.int .i64 n] 3)).alloc o3).alloc (.cells #[.int .i64 s] 3)).gr p) := by
  have hbox : Box ((((w.alloc o1).alloc (.cells #[.int .i64 n] 3)).alloc o3).alloc (.cells #[.int .i64 0] 3)) (w.heap.size + 1 + 1 + 1) 3 (.int .i64 0) := by
    have := box_new (((w.alloc o1).alloc (.cells #[.int .i64 n] 3)).alloc o3) 3 (.int .i64 0)
    simpa only [size_alloc] using this
  have hcell : ((((w.alloc o1).alloc (.cells #[.int .i64 n] 3)).alloc o3).alloc (.cells #[.int .i64 0] 3)).cell? ⟨w.heap.size + 1, 0, none⟩ = some (.int .i64 n) := by
    have := box_new (w.alloc o1) 3 (.int .i64 n)
    simp only [size_alloc] at this
    exact ((this.alloc _).alloc _).cell
  refine (ixA_is v l (w.heap.size + 1 + 1 + 1) (w.heap.size + 1) n _ (h.grown (by repeat (first | exact Gn.refl _ | refine Gn.gr ?_ _ | refine Gn.alloc ?_ _))) ht hbox hcell (by omega) ?_).mono ?_
  · rintro b off cap k rfl
    rcases h with ⟨_, h⟩ | ⟨b', off', cap', h, hb, _⟩
    · simp at h
    · simp at h
      omega
  · rintro x w' ⟨rfl, hg, s, hb'⟩
    obtain ⟨p, rfl⟩ := gb_form hbox hg hb'
    refine ⟨rfl, s, p, ?_⟩
    congr 1
    have := box_new_set (((w.alloc o1).alloc (.cells #[.int .i64 n] 3)).alloc o3) 3 (.int .i64 0) (.int .i64 s)
    simpa only [size_alloc] using this

set_option maxHeartbeats 1000000 in
theorem at_is (v : Value) (l : List B) (x n : Int) (w : World) (h : SL w v l) (ht : Tame l) : Calls Try.prog 9 #[.agg #[.int .i64 x, v], .int .i64 n] w fun y w' => y = .returned (.tuple #[(atB l n).val, .bool (atOk l n)]) ∧ Gn w w' := by
  by_cases h0 : n < 0
  · have e1 : atB l n = B0 := by unfold atB; rw [if_neg (by omega)]
    have e2 : atOk l n = false := by unfold atOk; simp; omega
    rw [e1, e2]
    unfold B0 B.val
    go_enter Try.func9, Try.ntmps9
    go_wp2
    exact bodyPost_ret (v := .tuple #[.agg #[.int .i64 0, .int .i64 0, .int .i64 0, .bool false, .int .u64 0, .int .u64 0], .bool false]) (by simp [results, Try.results9, go_sem]) rfl ⟨rfl, by repeat (first | exact Gn.refl _ | refine Gn.gr ?_ _ | refine Gn.alloc ?_ _)⟩
  · by_cases hp : pos l n < l.length
    · have e1 : atB l n = el l (pos l n) := by unfold atB; rw [if_pos (by omega)]
      have e2 : atOk l n = true := by unfold atOk; simp; omega
      have e3 : ixV l n = (pos l n : Nat) := by unfold ixV; rw [if_pos hp]
      rcases h with ⟨rfl, rfl⟩ | ⟨b, off, cap, rfl, hb, hc⟩
      · simp at hp
      have hcall := fun o1 o3 => at_call l n w _ o1 o3 (.inr ⟨b, off, cap, rfl, hb, hc⟩) ht
      have HC : Hid _ := hcall
      clear hcall
      have hl := ht.1
      rw [e1, e2]
      rw [e3] at HC
      obtain ⟨c0, c1, c2, c3, c4, c5⟩ := hc _ hp
      clear hc e1 e2 e3
      generalize pos l n = k at *
      unfold B.val
      go_enter Try.func9, Try.ntmps9
      go_wp2_with (go_at_call 20; refine (HC.out _ _).mono ?_; rintro x w' ⟨rfl, s, p, rfl⟩)
      exact bodyPost_ret (v := .tuple #[(el l k).val, .bool true]) (by simp [results, Try.results9, go_sem, B.val]) rfl ⟨rfl, by repeat (first | exact Gn.refl _ | refine Gn.gr ?_ _ | refine Gn.alloc ?_ _)⟩
    · have e1 : atB l n = B0 := by unfold atB; rw [if_neg (by omega)]
      have e2 : atOk l n = false := by unfold atOk; simp; omega
      have e3 : ixV l n = -1 := by unfold ixV; rw [if_neg hp]
      have hcall := fun o1 o3 => at_call l n w _ o1 o3 h ht
      have HC : Hid _ := hcall
      clear hcall
      rw [e3] at HC
      rw [e1, e2]
      unfold B0 B.val
      go_enter Try.func9, Try.ntmps9
      go_wp2_with (go_at_call 20; refine (HC.out _ _).mono ?_; rintro x w' ⟨rfl, s, p, rfl⟩)
      exact bodyPost_ret (v := .tuple #[.agg #[.int .i64 0, .int .i64 0, .int .i64 0, .bool false, .int .u64 0, .int .u64 0], .bool false]) (by simp [results, Try.results9, go_sem]) rfl ⟨rfl, by repeat (first | exact Gn.refl _ | refine Gn.gr ?_ _ | refine Gn.alloc ?_ _)⟩
end Go.Proofs.Ythcmhegbmpnepaa
