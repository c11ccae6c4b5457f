/- Arguments that are slices of slices of backends, of numbers, of bytes, opened. -/
import Derived.Test.YtidekhhelljjdaaOpen
import Derived.Test.YtidekhhelljjdaaPlays
namespace Go.Proofs.Ytidekhhelljjdaa
open Go.ChangeShapes Go.WideShapes Go.RowKit Go.Deep

theorem open_sa2 {H : Type} {enc : TypeId × Value → H} {w : World} {held : Bool} {fuel : Nat} {v : Value} {x : DataW H × List MemPlace}
    (hf : DataW.trod enc Try.prog w 0 (fun _ => true) held fuel 22 [v] = some x) : ∃ l : List B, SA w v l ∧ l.length ≤ maxLen := by
  rcases open_slice Try.underlying22 hf with ⟨h0, _⟩ | ⟨a, len', cap', m, n, D, Pl, hcs, _, hl, hm, hmm, _, hi⟩
  · injection h0 with h0
    exact ⟨[], .inl ⟨rfl, _, _, h0⟩, by simp⟩
  · injection hcs with hcs
    subst hcs
    simp only [if_true] at hmm
    subst hmm
    rcases Nat.eq_zero_or_pos len' with rfl | hpos
    · exact ⟨[], .inl ⟨rfl, _, _, rfl⟩, by simp⟩
    have each : ∀ i, i < len' → ∃ b : B, ∀ j, j < 6 → w.cell? ((a.add (i * 6)).add j) = b.cells[j]? := fun i hil => by
      obtain ⟨cs', hc, ht⟩ := hi i (by omega)
      rw [cells29] at hc
      obtain ⟨b, rfl, hw⟩ := open_B ht
      exact ⟨b, (World.cells?_some hc).2.2⟩
    obtain ⟨f, hF⟩ := choose_lt each
    obtain ⟨b, off, sp⟩ := a
    have hsp : sp = none := by
      have h0 := hF 0 hpos 0 (by omega)
      cases sp with
      | none => rfl
      | some s =>
        simp [Addr.add, World.cell?, B.cells] at h0
        split at h0 <;> simp at h0
    subst hsp
    have hadd : ∀ x j, Addr.add ⟨b, x, none⟩ j = ⟨b, x + j, none⟩ := fun x j => by unfold Addr.add; split <;> simp_all
    refine ⟨(List.range len').map f, .inr ⟨b, off, m, by simp, ?_, fun k hk => ?_⟩, by simp; omega⟩
    · have h0 := hF 0 hpos 0 (by omega)
      rw [hadd, hadd] at h0
      exact World.block_lt_of_cell? w ⟨b, _, none⟩ (h0.trans rfl)
    · simp only [List.length_map, List.length_range] at hk
      have he : el ((List.range len').map f) k = f k := by simp [el, hk]
      have hc := hF k hk
      simp only [hadd] at hc
      rw [he]
      exact ⟨hc 0 (by omega), hc 1 (by omega), hc 2 (by omega), hc 3 (by omega), hc 4 (by omega), hc 5 (by omega)⟩

theorem cells22' : Try.prog.cellsOf 22 = 1 := by kernel_rfl
theorem cells5' : Try.prog.cellsOf 5 = 1 := by kernel_rfl
/-- A slice of one cell an element: its cells. -/
theorem open_one {H : Type} {enc : TypeId × Value → H} {w : World} {b0 : Nat} {held : Bool} {r : Reach} {t e : TypeId} {v : Value} {d : DataW H} {p : List MemPlace} (ht : Try.prog.underlying t = some (.slice e)) (hc1 : Try.prog.cellsOf e = 1)
    (hv : Value.okWide Try.prog w r b0 t v) (h : DataW.Trod enc Try.prog w 0 (fun _ => true) held t v d p) :
    ∃ o n c, v = .slice o n c ∧ n ≤ maxLen ∧ ∀ i, i < n → ∃ b off u fuel x, o = some ⟨b, off, none⟩ ∧ w.cell? ⟨b, off + i, none⟩ = some u ∧ DataW.trod enc Try.prog w 0 (fun _ => true) held fuel e [u] = some x := by
  obtain ⟨o, len, cap, rfl⟩ := okWide_slice ht hv
  obtain ⟨fuel, hf⟩ := h
  rcases open_slice1 ht hc1 hf with ⟨h0, _⟩ | ⟨a, len', cap', m, n, V, D, Pl, hcs, _, hl, hm, hmm, _, hi⟩
  · simp [Value.cells] at h0
    obtain ⟨rfl, rfl, rfl⟩ := h0
    exact ⟨_, _, _, rfl, by simp, fun i hi => absurd hi (by omega)⟩
  · simp [Value.cells] at hcs
    obtain ⟨rfl, rfl, rfl⟩ := hcs
    simp only [if_true] at hmm
    subst hmm
    refine ⟨_, _, _, rfl, by omega, fun i hil => ?_⟩
    obtain ⟨hc, ht⟩ := hi i (by omega)
    obtain ⟨b, off, sp⟩ := a
    have hsp : sp = none := by
      cases sp with
      | none => rfl
      | some s =>
        have hc0 := (hi 0 (by omega)).1
        simp [Addr.add, World.cell?] at hc0
        split at hc0 <;> simp at hc0
    subst hsp
    have hadd : ∀ x j, Addr.add ⟨b, x, none⟩ j = ⟨b, x + j, none⟩ := fun x j => by unfold Addr.add; split <;> simp_all
    rw [hadd] at hc
    exact ⟨b, off, _, _, _, rfl, hc, ht⟩
theorem open_a0 {H : Type} {enc : TypeId × Value → H} {w : World} {b0 : Nat} {held : Bool} {r : Reach} {v : Value} {d : DataW H} {p : List MemPlace}
    (hv : Value.okWide Try.prog w r b0 39 v) (h : DataW.Trod enc Try.prog w 0 (fun _ => true) held 39 v d p) : ∃ o n c V L, v = .slice o n c ∧ n ≤ maxLen ∧ A0 w o n V L ∧ ∀ i, i < n → (L i).length ≤ maxLen := by
  obtain ⟨o, n, c, rfl, hn, hi⟩ := open_one Try.underlying39 cells22' hv h
  have each : ∀ i, i < n → ∃ q : Value × List B, (∃ b off, o = some ⟨b, off, none⟩ ∧ w.cell? ⟨b, off + i, none⟩ = some q.1) ∧ SA w q.1 q.2 ∧ q.2.length ≤ maxLen := fun i hil => by
    obtain ⟨b, off, u, fuel, x, e, hc, ht⟩ := hi i hil
    obtain ⟨l, hl, hm⟩ := open_sa2 ht
    exact ⟨(u, l), ⟨b, off, e, hc⟩, hl, hm⟩
  have : Inhabited (Value × List B) := ⟨(undef, [])⟩
  obtain ⟨F, hF⟩ := choose_lt each
  exact ⟨o, n, c, fun i => (F i).1, fun i => (F i).2, rfl, hn, fun i hil => by
    obtain ⟨⟨b, off, e, hc⟩, hs, _⟩ := hF i hil
    exact ⟨b, off, e, hc, hs⟩, fun i hil => (hF i hil).2.2⟩
theorem open_a1 {H : Type} {enc : TypeId × Value → H} {w : World} {b0 : Nat} {held : Bool} {r : Reach} {v : Value} {d : DataW H} {p : List MemPlace}
    (hv : Value.okWide Try.prog w r b0 32 v) (h : DataW.Trod enc Try.prog w 0 (fun _ => true) held 32 v d p) : ∃ o n c f, v = .slice o n c ∧ n ≤ maxLen ∧ A1 w o n f := by
  obtain ⟨o, n, c, rfl, hn, hi⟩ := open_one Try.underlying32 cells3 hv h
  have each : ∀ i, i < n → ∃ q : Int, ∃ b off, o = some ⟨b, off, none⟩ ∧ w.cell? ⟨b, off + i, none⟩ = some (.int .i64 q) := fun i hil => by
    obtain ⟨b, off, u, fuel, x, e, hc, ht⟩ := hi i hil
    obtain ⟨q, e1, _, _⟩ := DataW.trod_int Try.underlying3 ht
    injection e1 with e1
    exact ⟨q, b, off, e, by rw [hc, e1]⟩
  obtain ⟨F, hF⟩ := choose_lt each
  exact ⟨o, n, c, F, rfl, hn, hF⟩
theorem open_a2 {H : Type} {enc : TypeId × Value → H} {w : World} {b0 : Nat} {held : Bool} {r : Reach} {v : Value} {d : DataW H} {p : List MemPlace}
    (hv : Value.okWide Try.prog w r b0 40 v) (h : DataW.Trod enc Try.prog w 0 (fun _ => true) held 40 v d p) : ∃ o n c f, v = .slice o n c ∧ n ≤ maxLen ∧ A2 w o n f := by
  obtain ⟨o, n, c, rfl, hn, hi⟩ := open_one Try.underlying40 cells5' hv h
  have each : ∀ i, i < n → ∃ q : Int, ∃ b off, o = some ⟨b, off, none⟩ ∧ w.cell? ⟨b, off + i, none⟩ = some (.int .u8 q) ∧ 0 ≤ q ∧ q ≤ 255 := fun i hil => by
    obtain ⟨b, off, u, fuel, x, e, hc, ht⟩ := hi i hil
    obtain ⟨q, e1, _, hw⟩ := DataW.trod_int Try.underlying5 ht
    injection e1 with e1
    exact ⟨q, b, off, e, by rw [hc, e1], by simpa [Lit.wf, IntKind.min, IntKind.max, IntKind.signed, IntKind.bits] using hw⟩
  obtain ⟨F, hF⟩ := choose_lt each
  exact ⟨o, n, c, F, rfl, hn, hF⟩
end Go.Proofs.Ytidekhhelljjdaa
