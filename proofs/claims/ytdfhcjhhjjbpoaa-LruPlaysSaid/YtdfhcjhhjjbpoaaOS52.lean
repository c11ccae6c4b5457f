/- An argument that is a slice of steps, opened to a list. -/
import Derived.Test.YtdfhcjhhjjbpoaaRG52
namespace Go.Proofs.Ytdfhcjhhjjbpoaa
open Go.ChangeShapes Go.WideShapes Go.RowKit Go.Deep

theorem cells34 : Try.prog.cellsOf 34 = 11 := by kernel_rfl
structure St where
  k : Int
  t : Tup
  n : Int
def S0 : St := ⟨0, T0, 0⟩
def St.cs (s : St) : Array Value := #[.int .i64 s.k, .int .i64 s.t.p, .bool s.t.a, .int .u64 s.t.b, .int .u64 s.t.c, .bool s.t.d, .int .u64 s.t.e, .int .u64 s.t.f, .int .i64 s.t.s, .int .i64 s.t.t, .int .i64 s.n]
def sl (l : List St) (k : Nat) : St := (l[k]?).getD S0
/-- The cells of steps at block b from off on. -/
def SC (w : World) (b off : Nat) (l : List St) : Prop := b < w.heap.size ∧ ∀ k, k < l.length → ∀ j, j < 11 → w.cell? ⟨b, off + k * 11 + j, none⟩ = (sl l k).cs[j]?
/-- v reads as the steps l. -/
def SSl (w : World) (v : Value) (l : List St) : Prop := (∃ o c, l = [] ∧ v = .slice o 0 c) ∨ ∃ b off cap, v = .slice (some ⟨b, off, none⟩) l.length cap ∧ SC w b off l
theorem SSl.shape {w : World} {v : Value} {l : List St} (h : SSl w v l) : ∃ o c, v = .slice o l.length c := by
  rcases h with ⟨o, c, rfl, rfl⟩ | ⟨b, off, cap, rfl, _⟩ <;> exact ⟨_, _, rfl⟩
theorem SSl.row {w : World} {v : Value} {l : List St} (h : SSl w v l) (hp : 0 < l.length) : ∃ b off cap, v = .slice (some ⟨b, off, none⟩) l.length cap ∧ SC w b off l := by
  rcases h with ⟨_, _, rfl, _⟩ | h
  · simp at hp
  · exact h
theorem SC.kept {w w' : World} {b off : Nat} {l : List St} {S : Nat → Prop} (h : SC w b off l) (hg : Kp S w w') (hs : ¬ S b) : SC w' b off l :=
  ⟨Nat.lt_of_lt_of_le h.1 hg.size, fun k hk j hj => by
    have h1 := h.2 k hk j hj
    have h2 : ∃ u, (sl l k).cs[j]? = some u := by
      have : j < (sl l k).cs.size := hj
      exact ⟨_, Array.getElem?_eq_getElem this⟩
    obtain ⟨u, hu⟩ := h2
    rw [hu] at h1 ⊢
    exact hg.cell h1 hs⟩
theorem SC.facts {w : World} {b off : Nat} {l : List St} (h : SC w b off l) {k : Nat} (hk : k < l.length) :
    w.cell? ⟨b, off + k * 11, none⟩ = some (.int .i64 (sl l k).k) ∧ w.cell? ⟨b, off + k * 11 + 1, none⟩ = some (.int .i64 (sl l k).t.p) ∧ w.cell? ⟨b, off + k * 11 + 1 + 1, none⟩ = some (.bool (sl l k).t.a) ∧ w.cell? ⟨b, off + k * 11 + 1 + 2, none⟩ = some (.int .u64 (sl l k).t.b) ∧ w.cell? ⟨b, off + k * 11 + 1 + 3, none⟩ = some (.int .u64 (sl l k).t.c) ∧
    w.cell? ⟨b, off + k * 11 + 1 + 4, none⟩ = some (.bool (sl l k).t.d) ∧ w.cell? ⟨b, off + k * 11 + 1 + 5, none⟩ = some (.int .u64 (sl l k).t.e) ∧ w.cell? ⟨b, off + k * 11 + 1 + 6, none⟩ = some (.int .u64 (sl l k).t.f) ∧ w.cell? ⟨b, off + k * 11 + 1 + 7, none⟩ = some (.int .i64 (sl l k).t.s) ∧ w.cell? ⟨b, off + k * 11 + 1 + 8, none⟩ = some (.int .i64 (sl l k).t.t) ∧ w.cell? ⟨b, off + k * 11 + 10, none⟩ = some (.int .i64 (sl l k).n) :=
  ⟨h.2 k hk 0 (by omega), h.2 k hk 1 (by omega), h.2 k hk 2 (by omega), h.2 k hk 3 (by omega), h.2 k hk 4 (by omega), h.2 k hk 5 (by omega), h.2 k hk 6 (by omega), h.2 k hk 7 (by omega), h.2 k hk 8 (by omega), h.2 k hk 9 (by omega), h.2 k hk 10 (by omega)⟩
theorem sl_mem {l : List St} {k : Nat} (hk : k < l.length) : sl l k ∈ l := by
  unfold sl
  rw [List.getElem?_eq_getElem hk]
  exact List.getElem_mem hk
theorem open_St {H : Type} {enc : TypeId × Value → H} {w : World} {base : Nat} {spare : Nat → Bool} {held : Bool} {n : Nat} {cs : List Value} {x : DataW H × List MemPlace}
    (h : DataW.trod enc Try.prog w base spare held n 34 cs = some x) : ∃ t : St, cs = t.cs.toList ∧ t.t.ok := by
  obtain ⟨xs, n', _, _, hlen, hxs, hf⟩ := DataW.trod_struct Try.underlying34 h
  rw [cells34] at hlen
  match cs, hlen with
  | [c0, c1, c2, c3, c4, c5, c6, c7, c8, c9, c10], _ =>
    match xs, hxs with
    | [y0, y1, y2], _ =>
      have f0 := hf 0 _ rfl
      have f1 := hf 1 _ rfl
      have f2 := hf 2 _ rfl
      simp only [cells3, cells32, List.drop_zero, List.drop_succ_cons, List.take_succ_cons, List.take_zero, List.getElem?_cons_zero, List.getElem?_cons_succ] at f0 f1 f2
      obtain ⟨i0, e0, _, w0⟩ := DataW.trod_int Try.underlying3 f0
      obtain ⟨t, e1, hok⟩ := open_T f1
      obtain ⟨i2, e2, _, w2⟩ := DataW.trod_int Try.underlying3 f2
      injection e0 with e0
      injection e2 with e2
      subst e0 e2
      simp only [Tup.cs, List.cons.injEq, and_true] at e1
      obtain ⟨rfl, rfl, rfl, rfl, rfl, rfl, rfl, rfl, rfl⟩ := e1
      exact ⟨⟨i0, t, i2⟩, rfl, hok⟩
/-- A slice of steps: of length 0, or a row in memory. -/
theorem open_ss {H : Type} {enc : TypeId × Value → H} {w : World} {b0 : Nat} {held : Bool} {r : Reach} {v : Value} {d : DataW H} {p : List MemPlace}
    (hv : Value.okWide Try.prog w r b0 22 v) (h : DataW.Trod enc Try.prog w 0 (fun _ => true) held 22 v d p) : ∃ l : List St, SSl w v l ∧ ∀ t ∈ l, t.t.ok := by
  obtain ⟨o, len, cap, rfl⟩ := okWide_slice Try.underlying22 hv
  obtain ⟨fuel, hf⟩ := h
  rcases open_slice Try.underlying22 hf with ⟨h0, _⟩ | ⟨a, len', cap', m, n, D, Pl, hcs, _, hl, hm, hmm, _, hi⟩
  · simp [Value.cells] at h0
    obtain ⟨rfl, rfl, rfl⟩ := h0
    exact ⟨[], .inl ⟨_, _, rfl, rfl⟩, fun t ht => by simp at ht⟩
  · simp [Value.cells] at hcs
    obtain ⟨rfl, rfl, rfl⟩ := hcs
    simp only [if_true] at hmm
    subst hmm
    rcases Nat.eq_zero_or_pos len with rfl | hpos
    · exact ⟨[], .inl ⟨_, _, rfl, rfl⟩, fun t ht => by simp at ht⟩
    have each : ∀ i, i < len → ∃ b : St, (∀ j, j < 11 → w.cell? ((a.add (i * 11)).add j) = b.cs.toList[j]?) ∧ b.t.ok := fun i hil => by
      obtain ⟨cs', hc, ht⟩ := hi i (by omega)
      rw [cells34] at hc
      obtain ⟨b, rfl, hw⟩ := open_St ht
      exact ⟨b, (World.cells?_some hc).2.2, hw⟩
    haveI : Inhabited St := ⟨S0⟩
    obtain ⟨f, hF⟩ := choose_lt each
    obtain ⟨b, off, sp⟩ := a
    have hsp : sp = none := by
      have h0 := (hF 0 hpos).1 0 (by omega)
      cases sp with
      | none => rfl
      | some s =>
        simp [Addr.add, World.cell?, St.cs] at h0
        split at h0 <;> simp at h0
    subst hsp
    have hadd : ∀ x j, Addr.add ⟨b, x, none⟩ j = ⟨b, x + j, none⟩ := fun x j => by unfold Addr.add; split <;> simp_all
    refine ⟨(List.range len).map f, .inr ⟨b, off, m, by simp, ?_, fun k hk j hj => ?_⟩, fun x hx => ?_⟩
    · have h0 := (hF 0 hpos).1 0 (by omega)
      rw [hadd, hadd] at h0
      exact World.block_lt_of_cell? w ⟨b, _, none⟩ (h0.trans rfl)
    · simp only [List.length_map, List.length_range] at hk
      have he : sl ((List.range len).map f) k = f k := by simp [sl, hk]
      have hc := (hF k hk).1 j hj
      simp only [hadd] at hc
      rw [he, hc]
      simp
    · simp only [List.mem_map, List.mem_range] at hx
      obtain ⟨i, hil, rfl⟩ := hx
      exact (hF i hil).2
end Go.Proofs.Ytdfhcjhhjjbpoaa
