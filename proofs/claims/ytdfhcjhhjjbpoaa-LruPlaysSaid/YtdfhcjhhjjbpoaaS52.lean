/- The row of links in the world. -/
import Derived.Test.YtdfhcjhhjjbpoaaK52
import Derived.BigRegion
import Derived.Laws.OwnMore
namespace Go.Proofs.Ytdfhcjhhjjbpoaa
open Go.RowKit

def LX (xs : List Value) (n : Nat) (tu : Nat → Tup) (nu : Nat → Int) (ah bk : Nat → Nat) : Prop :=
  ∀ p, p < n → (∀ j, j < 9 → xs[p * 12 + j]? = (tu p).cs[j]?) ∧ xs[p * 12 + 9]? = some (.int .i64 (nu p)) ∧ xs[p * 12 + 10]? = some (.int .i64 (ah p)) ∧ xs[p * 12 + 11]? = some (.int .i64 (bk p))
def Links (w : World) (g n cap : Nat) (tu : Nat → Tup) (nu : Nat → Int) (ah bk : Nat → Nat) : Prop :=
  ∃ xs, w.ownsRow 0 56 12 (.slice (some ⟨g, 0, none⟩) n cap) n xs ∧ LX xs n tu nu ah bk
section
variable {w : World} {g n cap : Nat} {tu : Nat → Tup} {nu : Nat → Int} {ah bk : Nat → Nat}
theorem Links.lt (h : Links w g n cap tu nu ah bk) : g < w.heap.size := by
  obtain ⟨xs, h1, _⟩ := h
  exact (h1.lt g rfl).2
theorem Links.cap_le (h : Links w g n cap tu nu ah bk) : n ≤ cap := by
  obtain ⟨xs, ⟨_, h1 | ⟨_, _, _, h1, _, _, h2, _⟩⟩, _⟩ := h
  · simp at h1
  · cases h1; exact h2
theorem Links.kept {w' : World} {S : Nat → Prop} (h : Links w g n cap tu nu ah bk) (hk : Kp S w w') (hs : ¬ S g) : Links w' g n cap tu nu ah bk := by
  obtain ⟨xs, ⟨h1, h2 | ⟨g', cap', cur, e, hb, hg, r⟩⟩, h3⟩ := h
  · simp at h2
  · cases e
    exact ⟨xs, ⟨h1, .inr ⟨g, cap, cur, rfl, hb, (hk.block g (lt_of_block hg) hs).trans hg, r⟩⟩, h3⟩
theorem Links.free (h : Links w g n cap tu nu ah bk) (j : Nat) : w.frozen? ⟨g, j, none⟩ = false := by
  obtain ⟨xs, h1, _⟩ := h
  exact h1.frozenAt j
theorem Links.num (h : Links w g n cap tu nu ah bk) {p : Nat} (hp : p < n) : w.cell? ⟨g, p * 12 + 9, none⟩ = some (.int .i64 (nu p)) := by
  obtain ⟨xs, h1, h2⟩ := h
  rw [h1.cellAt _ (by omega)]
  exact (h2 p hp).2.1
theorem Links.ahead (h : Links w g n cap tu nu ah bk) {p : Nat} (hp : p < n) : w.cell? ⟨g, p * 12 + 10, none⟩ = some (.int .i64 (ah p)) := by
  obtain ⟨xs, h1, h2⟩ := h
  rw [h1.cellAt _ (by omega)]
  exact (h2 p hp).2.2.1
theorem Links.back (h : Links w g n cap tu nu ah bk) {p : Nat} (hp : p < n) : w.cell? ⟨g, p * 12 + 11, none⟩ = some (.int .i64 (bk p)) := by
  obtain ⟨xs, h1, h2⟩ := h
  rw [h1.cellAt _ (by omega)]
  exact (h2 p hp).2.2.2
theorem Links.tup (h : Links w g n cap tu nu ah bk) {p : Nat} (hp : p < n) {j : Nat} (hj : j < 9) : w.cell? ⟨g, p * 12 + j, none⟩ = (tu p).cs[j]? := by
  obtain ⟨xs, h1, h2⟩ := h
  rw [h1.cellAt _ (by omega)]
  exact (h2 p hp).1 j hj
theorem Links.set_ah (h : Links w g n cap tu nu ah bk) (p x : Nat) (hp : p < n) : Links (w.setCell ⟨g, p * 12 + 10, none⟩ (.int .i64 x)) g n cap tu nu (upd ah p x) bk := by
  obtain ⟨xs, h1, h2⟩ := h
  have hl := h1.1
  refine ⟨_, (h1.stored _ _).1, fun q hq => ?_⟩
  obtain ⟨a1, a2, a3, a4⟩ := h2 q hq
  refine ⟨fun j hj => by rw [List.getElem?_set_ne (by omega)]; exact a1 j hj, by rw [List.getElem?_set_ne (by omega)]; exact a2, ?_, by rw [List.getElem?_set_ne (by omega)]; exact a4⟩
  by_cases e : q = p
  · subst e
    rw [List.getElem?_set_self (by omega), upd_same]
  · rw [List.getElem?_set_ne (by omega), upd_other e]
    exact a3
theorem Links.set_bk (h : Links w g n cap tu nu ah bk) (p x : Nat) (hp : p < n) : Links (w.setCell ⟨g, p * 12 + 11, none⟩ (.int .i64 x)) g n cap tu nu ah (upd bk p x) := by
  obtain ⟨xs, h1, h2⟩ := h
  have hl := h1.1
  refine ⟨_, (h1.stored _ _).1, fun q hq => ?_⟩
  obtain ⟨a1, a2, a3, a4⟩ := h2 q hq
  refine ⟨fun j hj => by rw [List.getElem?_set_ne (by omega)]; exact a1 j hj, by rw [List.getElem?_set_ne (by omega)]; exact a2, by rw [List.getElem?_set_ne (by omega)]; exact a3, ?_⟩
  by_cases e : q = p
  · subst e
    rw [List.getElem?_set_self (by omega), upd_same]
  · rw [List.getElem?_set_ne (by omega), upd_other e]
    exact a4
end
end Go.Proofs.Ytdfhcjhhjjbpoaa
