/- A law's own state: the turner, the counts. -/
import Derived.Test.YtidekhhelljjdaaAwake
import Derived.Deep.OwnRows
namespace Go.Proofs.Ytidekhhelljjdaa
open Go.RowKit

theorem Right.lt {l : List B} (h : Right l) : ∀ j i, i < j → j < l.length → (el l i).id < (el l j).id := by
  intro j
  induction j with
  | zero => intro i hi; omega
  | succ j ih =>
    intro i hi hj
    have h1 := h (j + 1) hj
    simp only [badAt, decide_eq_false_iff_not, Nat.add_sub_cancel] at h1
    have h2 : (el l j).id < (el l (j + 1)).id := by omega
    rcases Nat.lt_succ_iff_lt_or_eq.1 hi with h3 | rfl
    · exact Int.lt_trans (ih i h3 (by omega)) h2
    · exact h2
theorem right_nil (o : Option Addr) (c : Nat) (w : World) : Calls Try.prog 6 #[.slice o 0 c] w fun y w' => y = .returned (.bool true) ∧ Gn w w' := by
  go_enter Try.func6, Try.ntmps6
  go_wp2
  go_loop [3] (fun i => i = .int .i64 0) (fun _ => 0)
  case atStart => rfl
  case round =>
    subst hrel
    go_wp2
    go_ret
    exact ⟨rfl, (by repeat (first | exact Gn.refl _ | refine Gn.gr ?_ _ | refine Gn.alloc ?_ _))⟩
theorem all_next {P : Nat → Prop} {k : Nat} (h : ∀ j, j < k → P j) (hk : P k) : ∀ j, j < k + 1 → P j := by
  intro j hj
  rcases Nat.lt_succ_iff_lt_or_eq.1 hj with h1 | rfl
  · exact h j h1
  · exact hk

/-- An argument reads as a list. -/
def SA (w : World) (v : Value) (l : List B) : Prop :=
  (l = [] ∧ ∃ o c, v = .slice o 0 c) ∨ ∃ b off cap, v = .slice (some ⟨b, off, none⟩) l.length cap ∧ Cells w b off l
theorem SA.grown {w w' : World} {v : Value} {l : List B} (h : SA w v l) (hg : Gn w w') : SA w' v l := by
  rcases h with h | ⟨b, off, cap, rfl, hc⟩
  · exact .inl h
  · exact .inr ⟨b, off, cap, rfl, hc.grown hg⟩
theorem SA.shape {w : World} {v : Value} {l : List B} (h : SA w v l) : ∃ o c, v = .slice o l.length c := by
  rcases h with ⟨rfl, o, c, rfl⟩ | ⟨b, off, cap, rfl, _⟩ <;> exact ⟨_, _, rfl⟩
theorem SA.row {w : World} {o : Option Addr} {n c : Nat} {l : List B} (h : SA w (.slice o n c) l) (h0 : 0 < l.length) : ∃ b off, o = some ⟨b, off, none⟩ ∧ n = l.length ∧ Cells w b off l := by
  rcases h with ⟨rfl, _⟩ | ⟨b, off, cap, e, hc⟩
  · simp at h0
  · cases e
    exact ⟨b, off, rfl, rfl, hc⟩
theorem right_sa (v : Value) (l : List B) (w : World) (h : SA w v l) (ht : l.length ≤ 64) : Calls Try.prog 6 #[v] w fun y w' => y = .returned (.bool (decide (Right l))) ∧ Gn w w' := by
  rcases h with ⟨rfl, o, c, rfl⟩ | h
  · exact right_nil o c w
  · exact right_is v l w (.inr h) ht
theorem Right.inj {l : List B} (h : Right l) {i j : Nat} (hi : i < l.length) (hj : j < l.length) (e : (el l i).id = (el l j).id) : i = j := by
  rcases Nat.lt_trichotomy i j with h1 | h1 | h1
  · have := h.lt j i h1 hj; omega
  · exact h1
  · have := h.lt i j h1 hi; omega
theorem Right.tame {l : List B} (h : Right l) (hl : l.length ≤ 64) : Tame l := by
  refine ⟨hl, fun b hb => ?_⟩
  obtain ⟨i, hi, rfl⟩ := List.getElem_of_mem hb
  have := h i hi
  simp only [badAt, decide_eq_false_iff_not, el, List.getD_eq_getElem?_getD, List.getElem?_eq_getElem hi, Option.getD_some] at this
  omega

structure Lw (w0 : World) (tb cb : Nat) (l : List B) (k : Nat) (f : Nat → Int) (ver : Int) (wr : World) : Prop where
  kp : Kp (fun j => w0.heap.size ≤ j) w0 wr
  t : Trn w0 tb l k ver (fun j => j = cb) wr
  oc : w0.heap.size ≤ cb
  lc : cb < wr.heap.size
  row : ∀ i, i < l.length → wr.cell? ⟨cb, i, none⟩ = some (.int .i64 (f i)) ∧ wr.frozen? ⟨cb, i, none⟩ = false
theorem Lw.kept {w0 : World} {tb cb : Nat} {l : List B} {k : Nat} {f : Nat → Int} {ver : Int} {wr w' : World} (h : Lw w0 tb cb l k f ver wr) {k' : Nat} (ht : Trn w0 tb l k' ver (fun j => j = cb) w')
    (hk : Kp (fun j => w0.heap.size ≤ j ∧ ¬ j = cb) wr w') : Lw w0 tb cb l k' f ver w' :=
  ⟨h.kp.trans (hk.mono fun j _ e => e.1), ht, h.oc, by have := hk.size; have := h.lc; omega, fun i hi => ⟨hk.cell (h.row i hi).1 (fun e => e.2 rfl),
    (World.frozen?_of_block (hk.block cb h.lc (fun e => e.2 rfl))).trans (h.row i hi).2⟩⟩
theorem Lw.grown {w0 : World} {tb cb : Nat} {l : List B} {k : Nat} {f : Nat → Int} {ver : Int} {wr w' : World} (h : Lw w0 tb cb l k f ver wr) (hg : Gn wr w') : Lw w0 tb cb l k f ver w' :=
  h.kept (h.t.grown hg) (Kp.of_gn _ hg)
theorem Lw.set {w0 : World} {tb cb : Nat} {l : List B} {k : Nat} {f : Nat → Int} {ver : Int} {wr : World} (h : Lw w0 tb cb l k f ver wr) {i : Nat} (hi : i < l.length) (x : Int) :
    Lw w0 tb cb l k (fun j => if j = i then x else f j) ver (wr.setCell ⟨cb, i, none⟩ (.int .i64 x)) := by
  have hg : wr.grownBy (wr.setCell ⟨cb, i, none⟩ (.int .i64 x)) (some cb) := gb_set (gb_refl _ _) _ _
  refine ⟨h.kp.set cb i _ h.oc, h.t.kept (Kp.of_gb (S := fun j => j = cb) hg (fun j e => by cases e; rfl)) (fun _ e => e), h.oc, by have := hg.size; have := h.lc; omega, fun j hj => ?_⟩
  have hr := h.row j hj
  rw [World.frozen?_setCell]
  refine ⟨?_, hr.2⟩
  by_cases e : j = i
  · subst e
    rw [if_pos rfl]
    exact World.cell?_setCell_same _ _ _ hr.1
  · rw [if_neg e, World.cell?_setCell_other _ _ _ _ (by intro hh; injection hh with _ h2; exact e h2.symm)]
    exact hr.1
theorem Lw.congr {w0 : World} {tb cb : Nat} {l : List B} {k : Nat} {f f' : Nat → Int} {ver : Int} {wr : World} (h : Lw w0 tb cb l k f ver wr) (e : ∀ j, j < l.length → f j = f' j) : Lw w0 tb cb l k f' ver wr :=
  ⟨h.kp, h.t, h.oc, h.lc, fun i hi => by rw [← e i hi]; exact h.row i hi⟩
theorem madeCells_at (n i : Nat) (hi : i < n) : (madeCells #[Value.int .i64 0] n)[i]? = some (.int .i64 0) := by
  simp [madeCells, hi, Nat.mod_one]
/-- New counts. -/
theorem lw_start {w0 wr : World} {tb : Nat} {l : List B} {ver : Int} (hk : Kp (fun j => w0.heap.size ≤ j) w0 wr) (ht : Trn w0 tb l 0 ver (fun _ => False) wr) (cb : Nat) (hcb : cb = wr.heap.size) :
    Lw w0 tb cb l 0 (fun _ => 0) ver (wr.alloc (.cells (madeCells #[.int .i64 0] l.length) 3)) := by
  subst hcb
  have hb := heap_alloc_new wr (.cells (madeCells #[.int .i64 0] l.length) 3)
  refine ⟨hk.gn (by with_reducible (repeat (first | exact Gn.refl _ | refine Gn.gr ?_ _ | refine Gn.alloc ?_ _ | refine Gn.drew ?_))), (ht.newX (fun j e => .inr (by omega))).grown (by with_reducible (repeat (first | exact Gn.refl _ | refine Gn.gr ?_ _ | refine Gn.alloc ?_ _ | refine Gn.drew ?_))), hk.size, lt_of_block hb, fun i hi => ⟨?_, by simp only [World.frozen?, hb]; simp⟩⟩
  simp only [World.cell?, hb]
  exact madeCells_at _ _ hi
theorem Lw.sl {w0 : World} {tb cb : Nat} {l : List B} {k : Nat} {f : Nat → Int} {ver : Int} {wr : World} (h : Lw w0 tb cb l k f ver wr) {b off : Nat} (hc : Cells w0 b off l) : Cells wr b off l :=
  cells_kept hc h.kp (fun e => by have := hc.1; omega)
theorem sm_bd {f : Nat → Int} {n : Nat} (h : ∀ j, j < n → -64000 ≤ f j ∧ f j ≤ 4096000) : -((n : Int) * 64000) ≤ sm f n ∧ sm f n ≤ (n : Int) * 4096000 := by
  induction n with
  | zero => simp [sm]
  | succ n ih =>
    have := ih (fun j hj => h j (by omega))
    have := h n (by omega)
    rw [sm]
    omega
theorem getD_upto (f : Nat → Int) (n i : Nat) (hi : i < n) : inAt (upto f n) i = f i := by
  simp [inAt, upto, hi]
theorem IL.at {w : World} {v : Value} {f : Nat → Int} {n : Nat} (h : IL w v (upto f n)) : ∃ o c, v = .slice o n c ∧ ∀ i, i < n → ∃ b, o = some ⟨b, 0, none⟩ ∧ b < w.heap.size ∧ w.cell? ⟨b, i, none⟩ = some (.int .i64 (f i)) := by
  rcases h with ⟨h0, rfl⟩ | ⟨b, cap, rfl, hb, hc⟩
  · have : n = 0 := by have := congrArg List.length h0; simpa [upto_length] using this
    subst this
    exact ⟨none, 0, rfl, fun i hi => absurd hi (by omega)⟩
  · rw [upto_length] at hc ⊢
    exact ⟨_, cap, rfl, fun i hi => ⟨b, rfl, hb, by rw [hc i hi, getD_upto f n i hi]⟩⟩
end Go.Proofs.Ytidekhhelljjdaa
