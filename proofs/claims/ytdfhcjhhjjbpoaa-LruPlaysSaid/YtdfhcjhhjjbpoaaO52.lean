/- An argument that is a slice of tuples, opened to a list. -/
import Derived.Test.YtdfhcjhhjjbpoaaG52
import Derived.Deep.Slices
import Derived.ChangeArms
import Derived.WideShapes
namespace Go.Proofs.Ytdfhcjhhjjbpoaa
open Go.ChangeShapes Go.WideShapes Go.RowKit Go.Deep

theorem cells3 : Try.prog.cellsOf 3 = 1 := by kernel_rfl
theorem cells4 : Try.prog.cellsOf 4 = 1 := by kernel_rfl
theorem cells28 : Try.prog.cellsOf 28 = 1 := by kernel_rfl
theorem cells30 : Try.prog.cellsOf 30 = 3 := by kernel_rfl
instance : Inhabited Tup := ⟨T0⟩
def tl (l : List Tup) (k : Nat) : Tup := (l[k]?).getD T0
/-- The cells of tuples at block b from off on. -/
def TC (w : World) (b off : Nat) (l : List Tup) : Prop := b < w.heap.size ∧ ∀ k, k < l.length → ∀ j, j < 9 → w.cell? ⟨b, off + k * 9 + j, none⟩ = (tl l k).cs[j]?
/-- v reads as the tuples l. -/
def TSl (w : World) (v : Value) (l : List Tup) : Prop := (∃ o c, l = [] ∧ v = .slice o 0 c) ∨ ∃ b off cap, v = .slice (some ⟨b, off, none⟩) l.length cap ∧ TC w b off l
theorem TSl.shape {w : World} {v : Value} {l : List Tup} (h : TSl w v l) : ∃ o c, v = .slice o l.length c := by
  rcases h with ⟨o, c, rfl, rfl⟩ | ⟨b, off, cap, rfl, _⟩ <;> exact ⟨_, _, rfl⟩
theorem TSl.row {w : World} {v : Value} {l : List Tup} (h : TSl w v l) (hp : 0 < l.length) : ∃ b off cap, v = .slice (some ⟨b, off, none⟩) l.length cap ∧ TC w b off l := by
  rcases h with ⟨_, _, rfl, _⟩ | h
  · simp at hp
  · exact h
theorem TSl.gn {w w' : World} {v : Value} {l : List Tup} (h : TSl w v l) (hg : Gn w w') : TSl w' v l := by
  rcases h with h | ⟨b, off, cap, rfl, hb, hc⟩
  · exact .inl h
  · exact .inr ⟨b, off, cap, rfl, Nat.lt_of_lt_of_le hb hg.size, fun k hk j hj => by
      have h1 := hc k hk j hj
      have h2 : ∃ u, (tl l k).cs[j]? = some u := by
        have : j < (tl l k).cs.size := hj
        exact ⟨_, Array.getElem?_eq_getElem this⟩
      obtain ⟨u, hu⟩ := h2
      rw [hu] at h1 ⊢
      exact gn_cell hg h1⟩
theorem open_T {H : Type} {enc : TypeId × Value → H} {w : World} {base : Nat} {spare : Nat → Bool} {held : Bool} {n : Nat} {cs : List Value} {x : DataW H × List MemPlace}
    (h : DataW.trod enc Try.prog w base spare held n 32 cs = some x) : ∃ t : Tup, cs = t.cs.toList ∧ t.ok := by
  obtain ⟨xs, n', _, _, hlen, hxs, hf⟩ := DataW.trod_struct Try.underlying32 h
  rw [cells32] at hlen
  match cs, hlen with
  | [c0, c1, c2, c3, c4, c5, c6, c7, c8], _ =>
    match xs, hxs with
    | [y0, y1, y2, y3, y4], _ =>
      have f0 := hf 0 _ rfl
      have f1 := hf 1 _ rfl
      have f2 := hf 2 _ rfl
      have f3 := hf 3 _ rfl
      have f4 := hf 4 _ rfl
      simp only [cells3, cells30, List.drop_zero, List.drop_succ_cons, List.take_succ_cons, List.take_zero, List.getElem?_cons_zero, List.getElem?_cons_succ] at f0 f1 f2 f3 f4
      obtain ⟨i0, e0, _, w0⟩ := DataW.trod_int Try.underlying3 f0
      obtain ⟨i7, e7, _, w7⟩ := DataW.trod_int Try.underlying3 f3
      obtain ⟨i8, e8, _, w8⟩ := DataW.trod_int Try.underlying3 f4
      obtain ⟨zs, n'', _, _, _, hzs, hg⟩ := DataW.trod_struct Try.underlying30 f1
      obtain ⟨us, n''', _, _, _, hus, hk⟩ := DataW.trod_struct Try.underlying30 f2
      match zs, hzs, us, hus with
      | [z0, z1, z2], _, [u0, u1, u2], _ =>
        have g0 := hg 0 _ rfl
        have g1 := hg 1 _ rfl
        have g2 := hg 2 _ rfl
        have k0 := hk 0 _ rfl
        have k1 := hk 1 _ rfl
        have k2 := hk 2 _ rfl
        simp only [cells4, cells28, List.drop_zero, List.drop_succ_cons, List.take_succ_cons, List.take_zero, List.getElem?_cons_zero, List.getElem?_cons_succ] at g0 g1 g2 k0 k1 k2
        obtain ⟨b1, e1, _⟩ := DataW.trod_bool Try.underlying4 g0
        obtain ⟨i2, e2, _, w2⟩ := DataW.trod_int Try.underlying28 g1
        obtain ⟨i3, e3, _, w3⟩ := DataW.trod_int Try.underlying28 g2
        obtain ⟨b4, e4, _⟩ := DataW.trod_bool Try.underlying4 k0
        obtain ⟨i5, e5, _, w5⟩ := DataW.trod_int Try.underlying28 k1
        obtain ⟨i6, e6, _, w6⟩ := DataW.trod_int Try.underlying28 k2
        injection e0 with e0
        injection e1 with e1
        injection e2 with e2
        injection e3 with e3
        injection e4 with e4
        injection e5 with e5
        injection e6 with e6
        injection e7 with e7
        injection e8 with e8
        subst e0 e1 e2 e3 e4 e5 e6 e7 e8
        exact ⟨⟨i0, b1, i2, i3, b4, i5, i6, i7, i8⟩, rfl, w0, w2, w3, w5, w6, w7, w8⟩
/-- A slice of tuples: of length 0, or a row in memory. -/
theorem open_ts {H : Type} {enc : TypeId × Value → H} {w : World} {b0 : Nat} {held : Bool} {r : Reach} {v : Value} {d : DataW H} {p : List MemPlace}
    (hv : Value.okWide Try.prog w r b0 45 v) (h : DataW.Trod enc Try.prog w 0 (fun _ => true) held 45 v d p) : ∃ l : List Tup, TSl w v l ∧ ∀ t ∈ l, t.ok := by
  obtain ⟨o, len, cap, rfl⟩ := okWide_slice Try.underlying45 hv
  obtain ⟨fuel, hf⟩ := h
  rcases open_slice Try.underlying45 hf with ⟨h0, _⟩ | ⟨a, len', cap', m, n, D, Pl, hcs, _, hl, hm, hmm, _, hi⟩
  · simp [Value.cells] at h0
    obtain ⟨rfl, rfl, rfl⟩ := h0
    exact ⟨[], .inl ⟨_, _, rfl, rfl⟩, fun t ht => by simp at ht⟩
  · simp [Value.cells] at hcs
    obtain ⟨rfl, rfl, rfl⟩ := hcs
    simp only [if_true] at hmm
    subst hmm
    rcases Nat.eq_zero_or_pos len with rfl | hpos
    · exact ⟨[], .inl ⟨_, _, rfl, rfl⟩, fun t ht => by simp at ht⟩
    have each : ∀ i, i < len → ∃ b : Tup, (∀ j, j < 9 → w.cell? ((a.add (i * 9)).add j) = b.cs.toList[j]?) ∧ b.ok := fun i hil => by
      obtain ⟨cs', hc, ht⟩ := hi i (by omega)
      rw [cells32] at hc
      obtain ⟨b, rfl, hw⟩ := open_T ht
      exact ⟨b, (World.cells?_some hc).2.2, hw⟩
    obtain ⟨f, hF⟩ := choose_lt each
    obtain ⟨b, off, sp⟩ := a
    have hsp : sp = none := by
      have h0 := (hF 0 hpos).1 0 (by omega)
      cases sp with
      | none => rfl
      | some s =>
        simp [Addr.add, World.cell?, Tup.cs] at h0
        split at h0 <;> simp at h0
    subst hsp
    have hadd : ∀ x j, Addr.add ⟨b, x, none⟩ j = ⟨b, x + j, none⟩ := fun x j => by unfold Addr.add; split <;> simp_all
    refine ⟨(List.range len).map f, .inr ⟨b, off, m, by simp, ?_, fun k hk j hj => ?_⟩, fun x hx => ?_⟩
    · have h0 := (hF 0 hpos).1 0 (by omega)
      rw [hadd, hadd] at h0
      exact World.block_lt_of_cell? w ⟨b, _, none⟩ (h0.trans rfl)
    · simp only [List.length_map, List.length_range] at hk
      have he : tl ((List.range len).map f) k = f k := by simp [tl, hk]
      have hc := (hF k hk).1 j hj
      simp only [hadd] at hc
      rw [he, hc]
      simp
    · simp only [List.mem_map, List.mem_range] at hx
      obtain ⟨i, hil, rfl⟩ := hx
      exact (hF i hil).2
end Go.Proofs.Ytdfhcjhhjjbpoaa
