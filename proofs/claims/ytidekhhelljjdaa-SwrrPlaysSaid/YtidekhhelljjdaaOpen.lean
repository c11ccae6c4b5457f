/- An argument that is a slice of backends, opened to a list. -/
import Derived.Test.YtidekhhelljjdaaBk
import Derived.Deep.Slices
import Derived.ChangeArms
import Derived.WideShapes
namespace Go.Proofs.Ytidekhhelljjdaa
open Go.ChangeShapes Go.WideShapes Go.RowKit Go.Deep

theorem cells3 : Try.prog.cellsOf 3 = 1 := by kernel_rfl
theorem cells4 : Try.prog.cellsOf 4 = 1 := by kernel_rfl
theorem cells25 : Try.prog.cellsOf 25 = 1 := by kernel_rfl
theorem cells27 : Try.prog.cellsOf 27 = 3 := by kernel_rfl
theorem cells29 : Try.prog.cellsOf 29 = 6 := by kernel_rfl
def wfB (b : B) : Prop := (Lit.int .i64 b.id).wf = true ∧ (Lit.int .i64 b.wt).wf = true ∧ (Lit.int .i64 b.st).wf = true

theorem open_B {H : Type} {enc : TypeId × Value → H} {w : World} {base : Nat} {spare : Nat → Bool} {held : Bool} {n : Nat} {cs : List Value} {x : DataW H × List MemPlace}
    (h : DataW.trod enc Try.prog w base spare held n 29 cs = some x) : ∃ b : B, cs = b.cells ∧ wfB b := by
  obtain ⟨xs, n', _, _, hlen, hxs, hf⟩ := DataW.trod_struct Try.underlying29 h
  rw [cells29] at hlen
  match cs, hlen with
  | [c0, c1, c2, c3, c4, c5], _ =>
    match xs, hxs with
    | [y0, y1, y2, y3], _ =>
      have f0 := hf 0 _ rfl
      have f1 := hf 1 _ rfl
      have f2 := hf 2 _ rfl
      have f3 := hf 3 _ rfl
      simp only [cells3, cells27, List.drop_zero, List.drop_succ_cons, List.take_succ_cons, List.take_zero, List.getElem?_cons_zero, List.getElem?_cons_succ] at f0 f1 f2 f3
      obtain ⟨i0, e0, _, w0⟩ := DataW.trod_int Try.underlying3 f0
      obtain ⟨i1, e1, _, w1⟩ := DataW.trod_int Try.underlying3 f1
      obtain ⟨i2, e2, _, w2⟩ := DataW.trod_int Try.underlying3 f2
      obtain ⟨zs, n'', _, _, _, hzs, hg⟩ := DataW.trod_struct Try.underlying27 f3
      match zs, hzs with
      | [z0, z1, z2], _ =>
        have g0 := hg 0 _ rfl
        have g1 := hg 1 _ rfl
        have g2 := hg 2 _ rfl
        simp only [cells4, cells25, List.drop_zero, List.drop_succ_cons, List.take_succ_cons, List.take_zero, List.getElem?_cons_zero, List.getElem?_cons_succ] at g0 g1 g2
        obtain ⟨b3, e3, _⟩ := DataW.trod_bool Try.underlying4 g0
        obtain ⟨i4, e4, _, _⟩ := DataW.trod_int Try.underlying25 g1
        obtain ⟨i5, e5, _, _⟩ := DataW.trod_int Try.underlying25 g2
        injection e0 with e0
        injection e1 with e1
        injection e2 with e2
        injection e3 with e3
        injection e4 with e4
        injection e5 with e5
        subst e0 e1 e2 e3 e4 e5
        exact ⟨⟨i0, i1, i2, b3, i4, i5⟩, rfl, w0, w1, w2⟩

/-- A slice of backends: of length 0, or a row in memory. -/
theorem open_bs {H : Type} {enc : TypeId × Value → H} {w : World} {b0 : Nat} {held : Bool} {r : Reach} {v : Value} {d : DataW H} {p : List MemPlace}
    (hv : Value.okWide Try.prog w r b0 22 v) (h : DataW.Trod enc Try.prog w 0 (fun _ => true) held 22 v d p) :
    (∃ o c, v = .slice o 0 c) ∨ ∃ (b off cap : Nat) (l : List B), v = .slice (some ⟨b, off, none⟩) l.length cap ∧ Cells w b off l ∧ l.length ≤ maxLen ∧ ∀ x ∈ l, wfB x := by
  obtain ⟨o, len, cap, rfl⟩ := okWide_slice Try.underlying22 hv
  obtain ⟨fuel, hf⟩ := h
  rcases open_slice Try.underlying22 hf with ⟨h0, _⟩ | ⟨a, len', cap', m, n, D, Pl, hcs, _, hl, hm, hmm, _, hi⟩
  · simp [Value.cells] at h0
    obtain ⟨rfl, rfl, rfl⟩ := h0
    exact .inl ⟨_, _, rfl⟩
  · simp [Value.cells] at hcs
    obtain ⟨rfl, rfl, rfl⟩ := hcs
    simp only [if_true] at hmm
    subst hmm
    rcases Nat.eq_zero_or_pos len with rfl | hpos
    · exact .inl ⟨_, _, rfl⟩
    right
    have each : ∀ i, i < len → ∃ b : B, (∀ j, j < 6 → w.cell? ((a.add (i * 6)).add j) = b.cells[j]?) ∧ wfB b := fun i hil => by
      obtain ⟨cs', hc, ht⟩ := hi i (by omega)
      rw [cells29] at hc
      obtain ⟨b, rfl, hw⟩ := open_B ht
      exact ⟨b, (World.cells?_some hc).2.2, hw⟩
    obtain ⟨f, hF⟩ := choose_lt each
    obtain ⟨b, off, sp⟩ := a
    have hsp : sp = none := by
      have h0 := (hF 0 hpos).1 0 (by omega)
      cases sp with
      | none => rfl
      | some s =>
        simp [Addr.add, World.cell?, B.cells] at h0
        split at h0 <;> simp at h0
    subst hsp
    have hadd : ∀ x j, Addr.add ⟨b, x, none⟩ j = ⟨b, x + j, none⟩ := fun x j => by unfold Addr.add; split <;> simp_all
    refine ⟨b, off, m, (List.range len).map f, by simp, ⟨?_, fun k hk => ?_⟩, by simp; omega, fun x hx => ?_⟩
    · have h0 := (hF 0 hpos).1 0 (by omega)
      rw [hadd, hadd] at h0
      exact World.block_lt_of_cell? w ⟨b, _, none⟩ (h0.trans rfl)
    · simp only [List.length_map, List.length_range] at hk
      have he : el ((List.range len).map f) k = f k := by simp [el, hk]
      have hc := (hF k hk).1
      simp only [hadd] at hc
      rw [he]
      exact ⟨hc 0 (by omega), hc 1 (by omega), hc 2 (by omega), hc 3 (by omega), hc 4 (by omega), hc 5 (by omega)⟩
    · simp only [List.mem_map, List.mem_range] at hx
      obtain ⟨i, hil, rfl⟩ := hx
      exact (hF i hil).2
end Go.Proofs.Ytidekhhelljjdaa
