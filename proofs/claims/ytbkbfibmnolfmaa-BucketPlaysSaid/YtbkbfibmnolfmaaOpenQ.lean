/- An argument that is a slice of pairs of numbers, opened to a list. -/
import Derived.Test.YtbkbfibmnolfmaaPlays
namespace Go.Proofs.Ytbkbfibmnolfmaa
open Go.ChangeShapes Go.WideShapes Go.RowKit Go.Deep

theorem cells3 : Try.prog.cellsOf 3 = 1 := by kernel_rfl
theorem cells38 : Try.prog.cellsOf 38 = 2 := by kernel_rfl
theorem open_Q {H : Type} {enc : TypeId × Value → H} {w : World} {base : Nat} {spare : Nat → Bool} {held : Bool} {n : Nat} {cs : List Value} {x : DataW H × List MemPlace}
    (h : DataW.trod enc Try.prog w base spare held n 38 cs = some x) : ∃ a b : Int, cs = [.int .i64 a, .int .i64 b] := by
  obtain ⟨xs, n', _, _, hlen, hxs, hf⟩ := DataW.trod_array Try.underlying38 h
  rw [cells38] at hlen
  match cs, hlen with
  | [c0, c1], _ =>
    match xs, hxs with
    | [y0, y1], _ =>
      have f0 := hf 0 (by omega)
      have f1 := hf 1 (by omega)
      simp only [cells3, Nat.zero_mul, Nat.one_mul, List.drop_zero, List.drop_succ_cons, List.take_succ_cons, List.take_zero, List.getElem?_cons_zero, List.getElem?_cons_succ] at f0 f1
      obtain ⟨i0, e0, _, _⟩ := DataW.trod_int Try.underlying3 f0
      obtain ⟨i1, e1, _, _⟩ := DataW.trod_int Try.underlying3 f1
      injection e0 with e0
      injection e1 with e1
      subst e0 e1
      exact ⟨i0, i1, rfl⟩

theorem open_qa {H : Type} {enc : TypeId × Value → H} {w : World} {b0 : Nat} {held : Bool} {r : Reach} {v : Value} {d : DataW H} {p : List MemPlace}
    (hv : Value.okWide Try.prog w r b0 34 v) (h : DataW.Trod enc Try.prog w 0 (fun _ => true) held 34 v d p) : ∃ l, QA w v l ∧ l.length ≤ maxLen := by
  obtain ⟨o, len, cap, rfl⟩ := okWide_slice Try.underlying34 hv
  obtain ⟨fuel, hf⟩ := h
  rcases open_slice Try.underlying34 hf with ⟨h0, _⟩ | ⟨a, len', cap', m, n, D, Pl, hcs, _, hl, hm, hmm, _, hi⟩
  · simp [Value.cells] at h0
    obtain ⟨rfl, rfl, rfl⟩ := h0
    exact ⟨[], .inl ⟨rfl, _, _, rfl⟩, by simp⟩
  · simp [Value.cells] at hcs
    obtain ⟨rfl, rfl, rfl⟩ := hcs
    simp only [if_true] at hmm
    subst hmm
    rcases Nat.eq_zero_or_pos len with rfl | hpos
    · exact ⟨[], .inl ⟨rfl, _, _, rfl⟩, by simp⟩
    have each : ∀ i, i < len → ∃ q : Int × Int, (∀ j, j < 2 → w.cell? ((a.add (i * 2)).add j) = [Value.int .i64 q.1, .int .i64 q.2][j]?) := fun i hil => by
      obtain ⟨cs', hc, ht⟩ := hi i (by omega)
      rw [cells38] at hc
      obtain ⟨x, y, rfl⟩ := open_Q ht
      exact ⟨(x, y), (World.cells?_some hc).2.2⟩
    obtain ⟨f, hF⟩ := choose_lt each
    obtain ⟨b, off, sp⟩ := a
    have hsp : sp = none := by
      have h0 := hF 0 hpos 0 (by omega)
      cases sp with
      | none => rfl
      | some s =>
        simp [Addr.add, World.cell?] at h0
        split at h0 <;> simp at h0
    subst hsp
    have hadd : ∀ x j, Addr.add ⟨b, x, none⟩ j = ⟨b, x + j, none⟩ := fun x j => by unfold Addr.add; split <;> simp_all
    refine ⟨(List.range len).map f, .inr ⟨b, off, m, by simp, ?_, fun k hk => ?_⟩, by simp; omega⟩
    · have h0 := hF 0 hpos 0 (by omega)
      rw [hadd, hadd] at h0
      exact World.block_lt_of_cell? w ⟨b, _, none⟩ (h0.trans rfl)
    · simp only [List.length_map, List.length_range] at hk
      have he : pe ((List.range len).map f) k = f k := by simp [pe, hk]
      have hc := hF k hk
      simp only [hadd] at hc
      rw [he]
      exact ⟨hc 0 (by omega), hc 1 (by omega)⟩
end Go.Proofs.Ytbkbfibmnolfmaa
