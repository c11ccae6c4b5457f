/- An argument that is a slice of numbers, opened. -/
import Derived.Test.YtggfjpfjpinhoaaParts
import Derived.Deep.Slices
import Derived.ChangeArms
import Derived.OpenShut
import Derived.WideShapes
namespace Go.Proofs.Ytggfjpfjpinhoaa
open Go.ChangeShapes Go.WideShapes Go.RowKit Go.Deep

theorem cells3 : Try.prog.cellsOf 3 = 1 := by kernel_rfl
theorem open_ia {H : Type} {enc : TypeId × Value → H} {w : World} {b0 : Nat} {held : Bool} {r : Reach} {v : Value} {d : DataW H} {p : List MemPlace}
    (hv : Value.okWide Try.prog w r b0 22 v) (h : DataW.Trod enc Try.prog w 0 (fun _ => true) held 22 v d p) : ∃ xs : List Int, IA w v xs ∧ xs.length ≤ maxLen ∧ ∀ x ∈ xs, x ≤ 9223372036854775807 := by
  obtain ⟨o, len, cap, rfl⟩ := okWide_slice Try.underlying22 hv
  obtain ⟨fuel, hf⟩ := h
  rcases open_slice1 Try.underlying22 cells3 hf with ⟨h0, _⟩ | ⟨a, len', cap', m, n, V, D, Pl, hcs, _, hl, hm, hmm, _, hi⟩
  · simp [Value.cells] at h0
    obtain ⟨rfl, rfl, rfl⟩ := h0
    exact ⟨[], .inl ⟨rfl, _, _, rfl⟩, by simp, fun k hk => by simp at hk⟩
  · simp [Value.cells] at hcs
    obtain ⟨rfl, rfl, rfl⟩ := hcs
    simp only [if_true] at hmm
    subst hmm
    rcases Nat.eq_zero_or_pos len with rfl | hpos
    · exact ⟨[], .inl ⟨rfl, _, _, rfl⟩, by simp, fun k hk => by simp at hk⟩
    have each : ∀ i, i < len → ∃ q : Int, w.cell? (a.add i) = some (.int .i64 q) ∧ q ≤ 9223372036854775807 := fun i hil => by
      obtain ⟨hc, ht⟩ := hi i (by omega)
      obtain ⟨q, e, _, hw⟩ := DataW.trod_int Try.underlying3 ht
      injection e with e
      exact ⟨q, by rw [hc, e], (wf_i64 hw).2⟩
    obtain ⟨f, hF⟩ := choose_lt each
    obtain ⟨b, off, sp⟩ := a
    have hsp : sp = none := by
      have h0 := (hF 0 hpos).1
      cases sp with
      | none => rfl
      | some s =>
        simp [Addr.add, World.cell?] at h0
        split at h0 <;> simp at h0
    subst hsp
    have hadd : ∀ x j, Addr.add ⟨b, x, none⟩ j = ⟨b, x + j, none⟩ := fun x j => by unfold Addr.add; split <;> simp_all
    have he : ∀ k, k < len → ia ((List.range len).map f) k = f k := fun k hk => by simp [ia, hk]
    refine ⟨(List.range len).map f, .inr ⟨b, off, m, by simp, ?_, fun k hk => ?_⟩, by simp; omega, fun x hx => ?_⟩
    · have h0 := (hF 0 hpos).1
      rw [hadd] at h0
      exact World.block_lt_of_cell? w ⟨b, _, none⟩ h0
    · simp only [List.length_map, List.length_range] at hk
      rw [he k hk, ← hadd]
      exact (hF k hk).1
    · simp only [List.mem_map, List.mem_range] at hx
      obtain ⟨i, hil, rfl⟩ := hx
      exact (hF i hil).2
end Go.Proofs.Ytggfjpfjpinhoaa
