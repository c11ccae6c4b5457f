/- The state of a turner in a law's own blocks; the numbers table of the chapter's example. -/
import Derived.Test.YtidekhhelljjdaaNum
import Derived.Test.YtidekhhelljjdaaPlain
namespace Go.Proofs.Ytidekhhelljjdaa
open Go.RowKit

theorem nx_congr {l : List B} {ns ns' : Nat → Int} (h : ∀ j, j < l.length → ns j = ns' j) : ∀ j, j < l.length → nx l ns j = nx l ns' j := by
  intro j hj
  have e : best l ns = best l ns' := bst_congr (fun i hi => by unfold plus; rw [h i hi])
  rw [nx_eq, nx_eq, e, h j hj]
theorem Has.congr {w : World} {tb g : Nat} {l : List B} {ns ns' : Nat → Int} {ver : Int} (h : Has w tb g l ns ver) (e : ∀ j, j < l.length → ns j = ns' j) : Has w tb g l ns' ver := by
  obtain ⟨cap, a, b, c⟩ := h
  exact ⟨cap, a, b.congr e, c⟩

/-- The turner at tb, k turns behind the last new set; X: blocks that it has nothing of. -/
def Trn (w0 : World) (tb : Nat) (l : List B) (k : Nat) (ver : Int) (X : Nat → Prop) (wr : World) : Prop :=
  w0.heap.size ≤ tb ∧ ¬ X tb ∧ ((k = 0 ∧ TB wr tb true false 0 0 (.slice none 0 0)) ∨ ∃ g, Has wr tb g l (N l k) ver ∧ w0.heap.size ≤ g ∧ ¬ X g)
theorem Trn.kept {w0 : World} {tb : Nat} {l : List B} {k : Nat} {ver : Int} {X S : Nat → Prop} {wr w' : World} (h : Trn w0 tb l k ver X wr) (hk : Kp S wr w') (hs : ∀ j, S j → X j) : Trn w0 tb l k ver X w' := by
  obtain ⟨h1, h2, ⟨rfl, h3⟩ | ⟨g, h3, h4, h5⟩⟩ := h
  · exact ⟨h1, h2, .inl ⟨rfl, h3.kept hk (fun hh => h2 (hs _ hh))⟩⟩
  · exact ⟨h1, h2, .inr ⟨g, h3.kept hk (fun hh => h2 (hs _ hh)) (fun hh => h5 (hs _ hh)), h4, h5⟩⟩
theorem Trn.grown {w0 : World} {tb : Nat} {l : List B} {k : Nat} {ver : Int} {X : Nat → Prop} {wr w' : World} (h : Trn w0 tb l k ver X wr) (hg : Gn wr w') : Trn w0 tb l k ver X w' := h.kept (Kp.of_gn (fun _ => False) hg) (fun _ e => e.elim)
theorem Trn.lt {w0 : World} {tb : Nat} {l : List B} {k : Nat} {ver : Int} {X : Nat → Prop} {wr : World} (h : Trn w0 tb l k ver X wr) : tb < wr.heap.size := by
  obtain ⟨_, _, ⟨_, h3⟩ | ⟨g, ⟨cap, h3, _⟩, _⟩⟩ := h <;> exact h3.lt
theorem Trn.newX {w0 : World} {tb : Nat} {l : List B} {k : Nat} {ver : Int} {X X' : Nat → Prop} {wr : World} (h : Trn w0 tb l k ver X wr) (hx : ∀ j, X' j → X j ∨ wr.heap.size ≤ j) : Trn w0 tb l k ver X' wr := by
  have htl := h.lt
  obtain ⟨h1, h2, ⟨rfl, h3⟩ | ⟨g, h3, h4, h5⟩⟩ := h
  · exact ⟨h1, fun hh => by rcases hx _ hh with e | e; exact h2 e; omega, .inl ⟨rfl, h3⟩⟩
  · have hgl : g < wr.heap.size := by
      obtain ⟨cap, a, b, c⟩ := h3
      exact b.1
    exact ⟨h1, fun hh => by rcases hx _ hh with e | e; exact h2 e; omega, .inr ⟨g, h3, h4, fun hh => by rcases hx _ hh with e | e; exact h5 e; omega⟩⟩
theorem Trn.restart {w0 : World} {tb : Nat} {l : List B} {k : Nat} {ver : Int} {X : Nat → Prop} {wr : World} (h : Trn w0 tb l k ver X wr) (hz : ∀ j, j < l.length → N l k j = 0) : Trn w0 tb l 0 ver X wr := by
  obtain ⟨h1, h2, ⟨rfl, h3⟩ | ⟨g, h3, h4, h5⟩⟩ := h
  · exact ⟨h1, h2, .inl ⟨rfl, h3⟩⟩
  · exact ⟨h1, h2, .inr ⟨g, h3.congr (fun j hj => by rw [hz j hj]; rfl), h4, h5⟩⟩

/-- One turn. -/
theorem trn_pick {w0 : World} {tb : Nat} {l : List B} {k : Nat} {ver : Int} {X : Nat → Prop} {wr : World} {v : Value} (h : Trn w0 tb l k ver X wr) (hv : SL wr v l) (h0 : w0.heap.size ≤ wr.heap.size) (hX : ∀ j, X j → j < wr.heap.size)
    (hlen : 0 < l.length) (ht : Tame l) (hw : ∀ j, j < l.length → 1 ≤ wt l j) (hW : 0 < sumW l) :
    Calls Try.prog 9 #[.pointer (some ⟨tb, 0, none⟩), .agg #[.int .i64 ver, v]] wr fun y w' =>
      y = .returned (.tuple #[.int .i64 (el l (best l (N l k))).id, .bool true]) ∧ Trn w0 tb l (k + 1) ver X w' ∧ Kp (fun j => w0.heap.size ≤ j ∧ ¬ X j) wr w' := by
  have hshape : ∃ o n c, v = .slice o n c := by rcases hv with ⟨_, rfl⟩ | ⟨b, off, cap, rfl, _⟩ <;> exact ⟨_, _, _, rfl⟩
  obtain ⟨h1, h2, ⟨rfl, h3⟩ | ⟨g, h3, h4, h5⟩⟩ := h
  · refine (pick_new tb false 0 0 ver _ v l wr h3 (.inl rfl) hv hlen ht).mono ?_
    rintro y w' ⟨g, hg, rfl, hh, hk⟩
    refine ⟨rfl, ⟨h1, h2, .inr ⟨g, hh, by omega, fun hx => by have := hX g hx; omega⟩⟩, hk.mono (fun j hj e => ?_)⟩
    rcases e with rfl | rfl
    · exact ⟨h1, h2⟩
    · omega
  · refine (pick_same tb g ver v l (N l k) wr h3 hlen ht (fun j hj => by have := N_bd ht hlen hw hW k j hj; omega) hshape).mono ?_
    rintro y w' ⟨rfl, hh, hk⟩
    refine ⟨rfl, ⟨h1, h2, .inr ⟨g, hh, h4, h5⟩⟩, hk.mono (fun j _ e => ?_)⟩
    rcases e with rfl | rfl
    · exact ⟨h1, h2⟩
    · exact ⟨h4, h5⟩
/-- The numbers behind it. -/
theorem trn_numbers {w0 : World} {tb : Nat} {l : List B} {k : Nat} {ver : Int} {X : Nat → Prop} {wr : World} (h : Trn w0 tb l k ver X wr) (hk : 0 < k ∨ l = []) (ht : l.length ≤ 64) :
    Calls Try.prog 10 #[.pointer (some ⟨tb, 0, none⟩)] wr fun y w' => ∃ v', y = .returned v' ∧ IL w' v' (upto (N l k) l.length) ∧ Gn wr w' := by
  obtain ⟨h1, h2, ⟨rfl, h3⟩ | ⟨g, h3, h4, h5⟩⟩ := h
  · rcases hk with hk | rfl
    · omega
    · exact numbers_none tb _ _ _ _ wr h3
  · exact numbers_is tb g l _ ver wr h3 ht

/-! ### The example -/
def L0 : List B := [⟨1, 5, 0, false, 0, 0⟩, ⟨2, 1, 0, false, 0, 0⟩, ⟨3, 1, 0, false, 0, 0⟩]
def ids0 : List Int := [1, 1, 2, 1, 3, 1, 1]
def tab : Nat → Nat → Int
  | 0, _ => 0
  | 1, 0 => -2 | 1, _ => 1
  | 2, 0 => -4 | 2, _ => 2
  | 3, 0 => 1 | 3, 1 => -4 | 3, _ => 3
  | 4, 0 => -1 | 4, 1 => -3 | 4, _ => 4
  | 5, 0 => 4 | 5, _ => -2
  | 6, 0 => 2 | 6, _ => -1
  | _, _ => 0
theorem tab_step : ∀ k, k < 6 → ∀ j, j < 3 → nx L0 (tab k) j = tab (k + 1) j := by decide
theorem tab_id : ∀ k, k < 7 → (el L0 (best L0 (tab k))).id = ids0.getD k 0 := by decide
theorem N_tab : ∀ k, k < 7 → ∀ j, j < L0.length → N L0 k j = tab k j
  | 0, _, j, _ => by simp [N, tab]
  | k + 1, hk, j, hj => by
    rw [← tab_step k (by omega) j hj]
    exact nx_congr (fun i hi => N_tab k (by omega) i hi) j hj
theorem id0 {k : Nat} (hk : k < 7) : (el L0 (best L0 (N L0 k))).id = ids0.getD k 0 := by
  have e : best L0 (N L0 k) = best L0 (tab k) := bst_congr (fun i hi => by unfold plus; rw [N_tab k hk i hi])
  rw [e]
  exact tab_id k hk
theorem tame0 : Tame L0 := ⟨by decide, by intro b hb; simp [L0] at hb; rcases hb with rfl | rfl | rfl <;> decide⟩
theorem wt0 : ∀ j, j < L0.length → 1 ≤ wt L0 j := by decide
end Go.Proofs.Ytidekhhelljjdaa
