/- A whole array read out of a block; Add of two histograms. -/
import Derived.Test.YtggfjpfjpinhoaaFnsD
import Derived.Laws.Rows
namespace Go.Proofs.Ytggfjpfjpinhoaa
open Go.RowKit

theorem info25 : (Try.prog.info? 25).map (·.size) = some 64 := by kernel_rfl
theorem info3 : (Try.prog.info? 3).map (·.size) = some 1 := by kernel_rfl
theorem hi_new (w : World) (cs : Array Value) (h : cs = Array.replicate 68 (.int .i64 0)) (t : TypeId) : Hi (w.alloc (.cells cs t)) w.heap.size [] 0 0 :=
  ⟨(nums_new w 68 t cs h).congr fun j _ => by
      unfold hf
      simp only [cW, List.countP_nil, List.length_nil, sm, List.foldl_nil, sat]
      split
      · rfl
      · split
        · rfl
        · split
          · decide
          · split <;> rfl, .inl ⟨rfl, rfl, rfl⟩, fun x hx => by simp at hx, by simp⟩
theorem run_loadArr (w : World) (g : Nat) (f : Nat → Value) (hc : ∀ j, j < 64 → w.cell? ⟨g, j, none⟩ = some (f j)) :
    (loadVar 25 ⟨g, 0, none⟩).run Try.prog w = .ok (.agg ((List.range 64).map f).toArray) w := by
  have hl := run_loadCells_list (P := Try.prog) (w := w) ⟨g, 0, none⟩ ((List.range 64).map f) (fun j v hv => by
      have hadd : (⟨g, 0, none⟩ : Addr).add j = ⟨g, j, none⟩ := by unfold Addr.add; split <;> simp_all
      have hj : j < 64 := by
        rcases Nat.lt_or_ge j 64 with h | h
        · exact h
        · rw [List.getElem?_eq_none (by simpa using h)] at hv; cases hv
      rw [hadd, hc j hj]
      simp [hj] at hv
      rw [hv])
  simp only [List.length_map, List.length_range] at hl
  have hi := info25
  cases hq : Try.prog.info? 25 with
  | none => simp [hq] at hi
  | some i =>
    have hs : i.size = 64 := by simpa [hq] using hi
    have hagg : (isAgg 25).run Try.prog w = .ok true w := by
      unfold isAgg
      rw [Sem.run_bind, run_underlying Try.underlying25 w]
      rfl
    simp [loadVar, Sem.run_bind, hagg, sizeOf, typeInfo, hq, hs, hl]
theorem wpList_load_arr {ops : Array Oper} {rest : List Oper} {o : Oper} {a : Act} {w : World} {Q : Exit → Act → World → Prop} (hgd : o.guard = none) (x : Operand) (ho : o.op = .load 25 x)
    (g : Nat) (hx : a.eval x = .pointer (some ⟨g, 0, none⟩)) (f : Nat → Value) (hc : ∀ j, j < 64 → w.cell? ⟨g, j, none⟩ = some (f j))
    (h : ∀ A : Array Value, (∀ j, j < 64 → A[j]? = some (f j)) → wpList Try.prog ops Q rest (a.put o.dst (.agg A)) w) : wpList Try.prog ops Q (o :: rest) a w :=
  wpList_plain hgd fun _ hK => by
    have hh := hK _ _ (h ((List.range 64).map f).toArray (fun j hj => by simp [hj]))
    unfold Oper.wp execOp
    simp only [ho, hx, Instr.loadAt, Instr.sureAddr, Sem.run_bind, Sem.run_pure, Result.andThen_ok, run_loadArr w g f hc]
    exact hh
theorem run_index_arr (A : Array Value) (k : Nat) (v : Int) (hk : k < 64) (hA : A[k]? = some (.int .i64 v)) (w : World) : (Instr.index 25 (.agg A) (.int .i64 (k : Int))).run Try.prog w = .ok (.int .i64 v) w := by
  have hi := info3
  cases hq : Try.prog.info? 3 with
  | none => simp [hq] at hi
  | some i =>
    have hs : i.size = 1 := by simpa [hq] using hi
    have hagg : (isAgg 3).run Try.prog w = .ok false w := by
      unfold isAgg
      rw [Sem.run_bind, run_underlying Try.underlying3 w]
      rfl
    have h0 : (0 : Int) ≤ (k : Int) ∧ (k : Int) < ((64 : Nat) : Int) := by omega
    simp [Instr.index, asIntOf, run_underlying Try.underlying25, h0, part, hagg, sizeOf, typeInfo, hq, hs, hA]
    omega
end Go.Proofs.Ytggfjpfjpinhoaa
