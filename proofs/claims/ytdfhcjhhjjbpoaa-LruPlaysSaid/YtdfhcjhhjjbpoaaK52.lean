/- The key: a tuple as a map's key; the map of places. -/
import Derived.Test.YtdfhcjhhjjbpoaaP52
import Derived.DeepKeys4
import Derived.Maps.OwnSet
namespace Go.Proofs.Ytdfhcjhhjjbpoaa
open Go.RowKit

def Tup.cs (t : Tup) : Array Value := #[.int .i64 t.p, .bool t.a, .int .u64 t.b, .int .u64 t.c, .bool t.d, .int .u64 t.e, .int .u64 t.f, .int .i64 t.s, .int .i64 t.t]
def Tup.val (t : Tup) : Value := .agg t.cs
/-- Its numbers are numbers of their kinds. -/
def Tup.ok (t : Tup) : Prop := (Lit.int .i64 t.p).wf = true ∧ (Lit.int .u64 t.b).wf = true ∧ (Lit.int .u64 t.c).wf = true ∧ (Lit.int .u64 t.e).wf = true ∧ (Lit.int .u64 t.f).wf = true ∧ (Lit.int .i64 t.s).wf = true ∧ (Lit.int .i64 t.t).wf = true
theorem Tup.val_inj {t u : Tup} (h : t.val = u.val) : t = u := by
  cases t; cases u
  simp only [Tup.val, Tup.cs, Value.agg.injEq] at h
  simp at h
  simp [h]
theorem laidOut : laidOutB Try.prog = true := by kernel_rfl
theorem row32 : (32 : TypeId) < Try.prog.types.size := of_decide_eq_true (by kernel_rfl)
theorem cells32 : Try.prog.cellsOf 32 = 9 := by kernel_rfl
theorem wide32 : (match Try.prog.underlying 32 with | some (.array _ _) | some (.struct _) => true | _ => false) = true := by kernel_rfl
theorem law32 : Go.WideMaps.KeyLaw Try.prog 32 := deep_law_laid laidOut (m := 3) (by omega) row32 (by kernel_rfl) wide32
theorem keyed32 : Go.Maps.Keyed Try.prog 32 := Go.Maps.Keyed.of_law law32
theorem zero3 (w : World) : (zeroValue 3).run Try.prog w = .ok (.int .i64 0) w := by kernel_rfl
theorem kt32 : Try.prog.keyType 32 = true := by kernel_rfl
theorem tsz : Try.prog.types.size = 71 + 4 := by kernel_rfl
theorem formed32 (t : Tup) : t.val.formed Try.prog 32 = true := by simp [Tup.val, Tup.cs, Value.formed, Try.underlying32, cells32]
theorem keyLits_tup {t : Tup} (h : t.ok) (d : Nat) : Try.prog.keyLits (d + 5) 32 t.val.cells.toList = some [.int .i64 t.p, .bool t.a, .int .u64 t.b, .int .u64 t.c, .bool t.d, .int .u64 t.e, .int .u64 t.f, .int .i64 t.s, .int .i64 t.t] := by
  obtain ⟨h1, h2, h3, h4, h5, h6, h7⟩ := h
  have c3 : Try.prog.cellsOf 3 = 1 := by kernel_rfl
  have c4 : Try.prog.cellsOf 4 = 1 := by kernel_rfl
  have c28 : Try.prog.cellsOf 28 = 1 := by kernel_rfl
  have c30 : Try.prog.cellsOf 30 = 3 := by kernel_rfl
  simp [Tup.val, Tup.cs, Value.cells, Program.keyLits, Try.underlying32, Try.underlying30, Try.underlying3, Try.underlying4, Try.underlying28, cells32, c3, c4, c28, c30, h1, h2, h3, h4, h5, h6, h7]
  have e3 : ∀ i : Nat, i < 3 → i = 0 ∨ i = 1 ∨ i = 2 := by omega
  rw [if_pos (by intro i hi; rcases e3 i hi with rfl | rfl | rfl <;> simp), if_pos (by intro i hi; rcases e3 i hi with rfl | rfl | rfl <;> simp)]
  rfl
theorem keyOf_tup {t : Tup} (h : t.ok) : ∃ l, keyOf Try.prog 32 t.val = some l := by
  have hu : keyOf Try.prog 32 t.val = (if Try.prog.keyType 32 && t.val.formed Try.prog 32 then (Try.prog.keyLits (Try.prog.types.size + 1) 32 t.val.cells.toList).map fun ls => .string (keyBytes ls) else none) := by
    unfold keyOf
    simp only [Try.underlying32]
  rw [hu, kt32, formed32, tsz, show 71 + 4 + 1 = 71 + 5 from rfl, keyLits_tup h]
  exact ⟨_, rfl⟩
/-- Block b is the map of places: f t is the place of t; it has c entries. -/
def Mp (w : World) (b : Nat) (f : Tup → Option Nat) (c : Nat) : Prop :=
  ∃ (n : Nat) (D : DataW Unit), w.ownsMap Try.prog 32 (plainElem Try.prog 3) b n D ∧ n ≤ 1000000 ∧ Maps.size D = c ∧
    ∀ t : Tup, t.ok → ∀ l, keyOf Try.prog 32 t.val = some l → Maps.has D l = (f t).isSome ∧ D.atKey l (.lit (.int .i64 0)) = .lit (.int .i64 (((f t).getD 0 : Nat) : Int))
theorem Mp.kept {w w' : World} {b c : Nat} {f : Tup → Option Nat} {S : Nat → Prop} (h : Mp w b f c) (hk : Kp S w w') (hb : ¬ S b) : Mp w' b f c := by
  obtain ⟨n, D, ⟨es, cl, h1, h2⟩, r⟩ := h
  exact ⟨n, D, ⟨es, cl, (hk.block b (lt_of_block h1) hb).trans h1, h2⟩, r⟩
theorem Mp.lt {w : World} {b c : Nat} {f : Tup → Option Nat} (h : Mp w b f c) : b < w.heap.size := by
  obtain ⟨n, D, h1, _⟩ := h
  exact h1.lt
theorem Mp.made (w : World) : Mp (w.alloc (.map #[] 0)) w.heap.size (fun _ => none) 0 :=
  ⟨0, .map [], World.ownsMap_made w _ _ _, by omega, rfl, fun t _ l _ => ⟨by simp [Maps.has], rfl⟩⟩
theorem Mp.look {w : World} {b c : Nat} {f : Tup → Option Nat} (h : Mp w b f c) (t : Tup) (ht : t.ok) : (Instr.lookup 49 (.map (some b)) t.val true).run Try.prog w = .ok (.tuple #[.int .i64 (((f t).getD 0 : Nat) : Int), .bool (f t).isSome]) w := by
  obtain ⟨n, D, h1, h2, h3, h4⟩ := h
  obtain ⟨l, hl⟩ := keyOf_tup ht
  obtain ⟨h5, h6⟩ := h4 t ht l hl
  obtain ⟨v, ps, hrun, hv⟩ := h1.look_ok keyed32 Try.underlying49 (zero3 w) (plainElem_int Try.underlying3 (by decide)) hl
  obtain ⟨y, rfl, hy, _⟩ := plainElem_int_inv Try.underlying3 hv
  rw [h5] at hrun
  rw [h6] at hy
  simp at hy
  rw [hrun, hy.1]
theorem Mp.at {w : World} {b c : Nat} {f : Tup → Option Nat} (h : Mp w b f c) (t : Tup) (ht : t.ok) : (Instr.lookup 49 (.map (some b)) t.val false).run Try.prog w = .ok (.int .i64 (((f t).getD 0 : Nat) : Int)) w := by
  obtain ⟨n, D, h1, h2, h3, h4⟩ := h
  obtain ⟨l, hl⟩ := keyOf_tup ht
  obtain ⟨h5, h6⟩ := h4 t ht l hl
  obtain ⟨y, hrun, hy, _⟩ := h1.lookup_int keyed32 Try.underlying49 Try.underlying3 (zero3 w) hl
  rw [h6] at hy
  simp at hy
  rw [hrun, hy]
section
variable {w : World} {ops : Array Oper} {rest : List Oper} {o : Oper} {a : Act} {Q : Exit → Act → World → Prop}
theorem wpList_map_len (hg : o.guard = none) (m : Operand) (hop : o.op = Op.call { callee := Callee.builtin Builtin.len, args := #[m], argTypes := #[49] })
    {b c : Nat} {f : Tup → Option Nat} (hm : a.eval m = .map (some b)) (h : Mp w b f c) (hK : wpList Try.prog ops Q rest (a.put o.dst (.int .i64 c)) w) : wpList Try.prog ops Q (o :: rest) a w := by
  obtain ⟨n, D, h1, h2, h3, h4⟩ := h
  exact wpList_len_own w hg m 49 hop 32 3 Try.underlying49 _ b n D hm h1 (by rw [h3]; exact hK)
theorem wpList_map_del (hg : o.guard = none) (m x : Operand) (hop : o.op = Op.call { callee := Callee.builtin Builtin.delete, args := #[m, x], argTypes := #[49, 32] })
    {b c : Nat} {f : Tup → Option Nat} (hm : a.eval m = .map (some b)) (h : Mp w b f c) (t : Tup) (ht : t.ok) (hx : a.eval x = t.val) (hf : (f t).isSome = true)
    (hK : ∀ w', Mp w' b (fun u => if u = t then none else f u) (c - 1) → w.grownBy w' (some b) → wpList Try.prog ops Q rest (a.put o.dst (.tuple #[])) w') : wpList Try.prog ops Q (o :: rest) a w := by
  obtain ⟨n, D, h1, h2, h3, h4⟩ := h
  obtain ⟨l, hl⟩ := keyOf_tup ht
  have h5 := (h4 t ht l hl).1
  refine wpList_delete_own w hg m x 49 32 hop 3 keyed32 Try.underlying49 _ b n D hm h1 t.val l hx hl ?_
  intro w' h6 h7
  have hs := Maps.size_del (h1.tidy keyed32) (k := l)
  rw [h5, hf, if_pos rfl] at hs
  refine hK w' ⟨n, _, h6, h2, by omega, fun u hu k hk => ?_⟩ h7.grown
  by_cases e : u = t
  · subst e
    rw [hl] at hk
    cases hk
    simp only [if_true]
    exact ⟨Maps.has_del_same, Maps.atKey_del_same _⟩
  · have hne : k ≠ l := fun e2 => e (Tup.val_inj (keyed32.inj hk (e2 ▸ hl)))
    simp only [if_neg e]
    obtain ⟨h8, h9⟩ := h4 u hu k hk
    exact ⟨by rw [Maps.has_del_other hne]; exact h8, by rw [Maps.atKey_del_other hne]; exact h9⟩
theorem wpList_map_put (hg : o.guard = none) (m x v : Operand) (hop : o.op = Op.mapUpdate 49 m x v)
    {b c : Nat} {f : Tup → Option Nat} (hm : a.eval m = .map (some b)) (h : Mp w b f c) (hc : c ≤ 1000) (t : Tup) (ht : t.ok) (hx : a.eval x = t.val) (hf : f t = none) (p : Nat) (hp : p ≤ 1000000) (hv : a.eval v = .int .i64 p)
    (hK : ∀ w', Mp w' b (fun u => if u = t then some p else f u) (c + 1) → w.grownBy w' (some b) → wpList Try.prog ops Q rest (a.put o.dst undef) w') : wpList Try.prog ops Q (o :: rest) a w := by
  obtain ⟨n, D, ⟨es, cl, hb1, hF, hsz, hD⟩, h2, h3, h4⟩ := h
  have hn : es.size ≤ 1000 := by
    have : Maps.size D = es.size := by rw [hD]; simp [Maps.size, length_sorted]
    omega
  have h1 : w.ownsMap Try.prog 32 (plainElem Try.prog 3) b es.size D := ⟨es, cl, hb1, hF, Nat.le_refl _, hD⟩
  obtain ⟨l, hl⟩ := keyOf_tup ht
  have h5 := (h4 t ht l hl).1
  have hwf : (Lit.int .i64 (p : Int)).wf = true := WalkArith.wf_i64 (by omega)
  refine wpList_mapUpdate_own w hg m x v 49 hop 32 3 keyed32 Try.underlying49 _ b es.size D hm h1 (by unfold maxLen; omega) t.val _ l hx hv hl (.lit (.int .i64 p)) [] (plainElem_int Try.underlying3 hwf) ?_
  intro w' h6 h7
  have hs := Maps.size_put (h1.tidy keyed32) (k := l) (.lit (.int .i64 p))
  rw [h5, hf] at hs
  simp at hs
  refine hK w' ⟨_, _, h6, by omega, by omega, fun u hu k hk => ?_⟩ h7
  by_cases e : u = t
  · subst e
    rw [hl] at hk
    cases hk
    simp only [if_true]
    exact ⟨Maps.has_put_same h1.isMap (keyed32.key hl) _, Maps.atKey_put_same h1.isMap (keyed32.key hl) _ _⟩
  · have hne : k ≠ l := fun e2 => e (Tup.val_inj (keyed32.inj hk (e2 ▸ hl)))
    simp only [if_neg e]
    obtain ⟨h8, h9⟩ := h4 u hu k hk
    exact ⟨by rw [Maps.has_put_other hne]; exact h8, by rw [Maps.atKey_put_other hne]; exact h9⟩
end
end Go.Proofs.Ytdfhcjhhjjbpoaa
