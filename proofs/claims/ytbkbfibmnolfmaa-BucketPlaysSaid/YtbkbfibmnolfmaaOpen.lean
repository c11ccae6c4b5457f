/- An argument that is a slice of pairs of bytes, opened to a list. -/
import Derived.Test.YtbkbfibmnolfmaaAwake
import Derived.Deep.Slices
import Derived.ChangeArms
import Derived.OpenShut
import Derived.WideShapes
namespace Go.Proofs.Ytbkbfibmnolfmaa
open Go.ChangeShapes Go.WideShapes Go.RowKit Go.Deep

def pe (l : List (Int × Int)) (k : Nat) : Int × Int := l.getD k (0, 0)
def PCells (w : World) (b off : Nat) (l : List (Int × Int)) : Prop :=
  b < w.heap.size ∧ ∀ k, k < l.length → w.cell? ⟨b, off + k * 2, none⟩ = some (.int .u8 (pe l k).1) ∧ w.cell? ⟨b, off + k * 2 + 1, none⟩ = some (.int .u8 (pe l k).2) ∧ (0 ≤ (pe l k).1 ∧ (pe l k).1 ≤ 255) ∧ (0 ≤ (pe l k).2 ∧ (pe l k).2 ≤ 255)
def PA (w : World) (v : Value) (l : List (Int × Int)) : Prop :=
  (l = [] ∧ ∃ o c, v = .slice o 0 c) ∨ ∃ b off cap, v = .slice (some ⟨b, off, none⟩) l.length cap ∧ PCells w b off l
theorem PA.shape {w : World} {v : Value} {l : List (Int × Int)} (h : PA w v l) : ∃ o c, v = .slice o l.length c := by
  rcases h with ⟨rfl, o, c, rfl⟩ | ⟨b, off, cap, rfl, _⟩ <;> exact ⟨_, _, rfl⟩
theorem PA.row {w : World} {o : Option Addr} {n c : Nat} {l : List (Int × Int)} (h : PA w (.slice o n c) l) (h0 : 0 < l.length) : ∃ b off, o = some ⟨b, off, none⟩ ∧ PCells w b off l := by
  rcases h with ⟨rfl, _⟩ | ⟨b, off, cap, e, hc⟩
  · simp at h0
  · cases e
    exact ⟨b, off, rfl, hc⟩
theorem pcells_kept {S : Nat → Prop} {w w' : World} {b off : Nat} {l : List (Int × Int)} (h : PCells w b off l) (hg : Kp S w w') (hr : ¬ S b) : PCells w' b off l := by
  obtain ⟨hb, hc⟩ := h
  have e : ∀ i, w'.cell? ⟨b, i, none⟩ = w.cell? ⟨b, i, none⟩ := fun i => World.cell?_of_block (hg.block b hb hr)
  refine ⟨by have := hg.size; omega, fun k hk => ?_⟩
  simp only [e]
  exact hc k hk

theorem cells5 : Try.prog.cellsOf 5 = 1 := by kernel_rfl
theorem cells27 : Try.prog.cellsOf 27 = 2 := by kernel_rfl
theorem wf8 {i : Int} (h : (Lit.int .u8 i).wf = true) : 0 ≤ i ∧ i ≤ 255 := by simpa [Lit.wf, IntKind.min, IntKind.max, IntKind.signed, IntKind.bits] using h
theorem open_P {H : Type} {enc : TypeId × Value → H} {w : World} {base : Nat} {spare : Nat → Bool} {held : Bool} {n : Nat} {cs : List Value} {x : DataW H × List MemPlace}
    (h : DataW.trod enc Try.prog w base spare held n 27 cs = some x) : ∃ a b : Int, cs = [.int .u8 a, .int .u8 b] ∧ (0 ≤ a ∧ a ≤ 255) ∧ (0 ≤ b ∧ b ≤ 255) := by
  obtain ⟨xs, n', _, _, hlen, hxs, hf⟩ := DataW.trod_array Try.underlying27 h
  rw [cells27] at hlen
  match cs, hlen with
  | [c0, c1], _ =>
    match xs, hxs with
    | [y0, y1], _ =>
      have f0 := hf 0 (by omega)
      have f1 := hf 1 (by omega)
      simp only [cells5, Nat.zero_mul, Nat.one_mul, List.drop_zero, List.drop_succ_cons, List.take_succ_cons, List.take_zero, List.getElem?_cons_zero, List.getElem?_cons_succ] at f0 f1
      obtain ⟨i0, e0, _, w0⟩ := DataW.trod_int Try.underlying5 f0
      obtain ⟨i1, e1, _, w1⟩ := DataW.trod_int Try.underlying5 f1
      injection e0 with e0
      injection e1 with e1
      subst e0 e1
      exact ⟨i0, i1, rfl, wf8 w0, wf8 w1⟩

theorem open_pa {H : Type} {enc : TypeId × Value → H} {w : World} {b0 : Nat} {held : Bool} {r : Reach} {v : Value} {d : DataW H} {p : List MemPlace}
    (hv : Value.okWide Try.prog w r b0 23 v) (h : DataW.Trod enc Try.prog w 0 (fun _ => true) held 23 v d p) : ∃ l, PA w v l ∧ l.length ≤ maxLen := by
  obtain ⟨o, len, cap, rfl⟩ := okWide_slice Try.underlying23 hv
  obtain ⟨fuel, hf⟩ := h
  rcases open_slice Try.underlying23 hf with ⟨h0, _⟩ | ⟨a, len', cap', m, n, D, Pl, hcs, _, hl, hm, hmm, _, hi⟩
  · simp [Value.cells] at h0
    obtain ⟨rfl, rfl, rfl⟩ := h0
    exact ⟨[], .inl ⟨rfl, _, _, rfl⟩, by simp⟩
  · simp [Value.cells] at hcs
    obtain ⟨rfl, rfl, rfl⟩ := hcs
    simp only [if_true] at hmm
    subst hmm
    rcases Nat.eq_zero_or_pos len with rfl | hpos
    · exact ⟨[], .inl ⟨rfl, _, _, rfl⟩, by simp⟩
    have each : ∀ i, i < len → ∃ q : Int × Int, (∀ j, j < 2 → w.cell? ((a.add (i * 2)).add j) = [Value.int .u8 q.1, .int .u8 q.2][j]?) ∧ (0 ≤ q.1 ∧ q.1 ≤ 255) ∧ (0 ≤ q.2 ∧ q.2 ≤ 255) := fun i hil => by
      obtain ⟨cs', hc, ht⟩ := hi i (by omega)
      rw [cells27] at hc
      obtain ⟨x, y, rfl, h1, h2⟩ := open_P ht
      exact ⟨(x, y), (World.cells?_some hc).2.2, h1, h2⟩
    obtain ⟨f, hF⟩ := choose_lt each
    obtain ⟨b, off, sp⟩ := a
    have hsp : sp = none := by
      have h0 := (hF 0 hpos).1 0 (by omega)
      cases sp with
      | none => rfl
      | some s =>
        simp [Addr.add, World.cell?] at h0
        split at h0 <;> simp at h0
    subst hsp
    have hadd : ∀ x j, Addr.add ⟨b, x, none⟩ j = ⟨b, x + j, none⟩ := fun x j => by unfold Addr.add; split <;> simp_all
    refine ⟨(List.range len).map f, .inr ⟨b, off, m, by simp, ?_, fun k hk => ?_⟩, by simp; omega⟩
    · have h0 := (hF 0 hpos).1 0 (by omega)
      rw [hadd, hadd] at h0
      exact World.block_lt_of_cell? w ⟨b, _, none⟩ (h0.trans rfl)
    · simp only [List.length_map, List.length_range] at hk
      have he : pe ((List.range len).map f) k = f k := by simp [pe, hk]
      obtain ⟨hc, h1, h2⟩ := hF k hk
      simp only [hadd] at hc
      rw [he]
      exact ⟨hc 0 (by omega), hc 1 (by omega), h1, h2⟩
end Go.Proofs.Ytbkbfibmnolfmaa
