/- Backends, and slices of them in memory. -/
import Derived.Test.YtidekhhelljjdaaGr
import Derived.LoopTactic
namespace Go.Proofs.Ytidekhhelljjdaa
open Go.RowKit

structure B where
  id : Int
  wt : Int
  st : Int
  v6 : Bool
  hi : Int
  lo : Int
  deriving Inhabited, DecidableEq

def B.val (b : B) : Value := .agg #[.int .i64 b.id, .int .i64 b.wt, .int .i64 b.st, .bool b.v6, .int .u64 b.hi, .int .u64 b.lo]
def B.cells (b : B) : List Value := [.int .i64 b.id, .int .i64 b.wt, .int .i64 b.st, .bool b.v6, .int .u64 b.hi, .int .u64 b.lo]
def el (l : List B) (k : Nat) : B := l.getD k default

/-- The cells of element k of a row of backends at block b, from off on. -/
def Cells (w : World) (b off : Nat) (l : List B) : Prop :=
  b < w.heap.size ∧ ∀ k, k < l.length → w.cell? ⟨b, off + k * 6, none⟩ = some (.int .i64 (el l k).id) ∧ w.cell? ⟨b, off + k * 6 + 1, none⟩ = some (.int .i64 (el l k).wt) ∧
    w.cell? ⟨b, off + k * 6 + 2, none⟩ = some (.int .i64 (el l k).st) ∧ w.cell? ⟨b, off + k * 6 + 3, none⟩ = some (.bool (el l k).v6) ∧
    w.cell? ⟨b, off + k * 6 + 4, none⟩ = some (.int .u64 (el l k).hi) ∧ w.cell? ⟨b, off + k * 6 + 5, none⟩ = some (.int .u64 (el l k).lo)

/-- Slice value v reads as l. -/
def SL (w : World) (v : Value) (l : List B) : Prop :=
  (l = [] ∧ v = .slice none 0 0) ∨ ∃ b off cap, v = .slice (some ⟨b, off, none⟩) l.length cap ∧ Cells w b off l

theorem Cells.gr {w : World} {b off : Nat} {l : List B} (h : Cells w b off l) (p : Gr) : Cells (w.gr p) b off l := by
  obtain ⟨hb, hc⟩ := h
  refine ⟨by rw [size_gr]; omega, fun k hk => ?_⟩
  simp only [cell?_gr w p b _ hb]
  exact hc k hk
theorem Cells.grown {w w' : World} {b off : Nat} {l : List B} (h : Cells w b off l) (hg : Gn w w') : Cells w' b off l := by
  obtain ⟨p, rfl⟩ := hg
  exact h.gr p
theorem SL.grown {w w' : World} {v : Value} {l : List B} (h : SL w v l) (hg : Gn w w') : SL w' v l := by
  rcases h with h | ⟨b, off, cap, rfl, hc⟩
  · exact .inl h
  · exact .inr ⟨b, off, cap, rfl, hc.grown hg⟩

def sumW : List B → Int
  | [] => 0
  | b :: l => b.wt + sumW l
theorem sumW_append (l m : List B) : sumW (l ++ m) = sumW l + sumW m := by
  induction l with
  | nil => simp [sumW]
  | cons b l ih => simp [sumW, ih]; omega
theorem take_el {l : List B} {k : Nat} (h : k < l.length) : l.take (k + 1) = l.take k ++ [el l k] := by
  rw [List.take_add_one]
  simp [el, h]
theorem el_mem {l : List B} {k : Nat} (h : k < l.length) : el l k ∈ l := by
  simp [el, h]

def ok (b : B) : Bool := b.st == 1 && decide (0 < b.wt)
def Tame (l : List B) : Prop := l.length ≤ 64 ∧ ∀ b ∈ l, 0 ≤ b.wt ∧ b.wt ≤ 1000
theorem Tame.sum {l : List B} (h : Tame l) (k : Nat) (hk : k ≤ l.length) : 0 ≤ sumW (l.take k) ∧ sumW (l.take k) ≤ k * 1000 := by
  induction k with
  | zero => simp [sumW]
  | succ k ih =>
    have := ih (by omega)
    rw [take_el (by omega), sumW_append]
    have := h.2 _ (el_mem (show k < l.length by omega))
    simp only [sumW]
    omega
theorem weight_is (v : Value) (l : List B) (x : Int) (w : World) (h : SL w v l) (ht : Tame l) : Calls Try.prog 16 #[.agg #[.int .i64 x, v]] w fun e w' => e = .returned (.int .i64 (sumW l)) ∧ Gn w w' := by
  rcases h with ⟨rfl, rfl⟩ | ⟨b, off, cap, rfl, hb, hc⟩
  · go_enter Try.func16, Try.ntmps16
    go_wp2
    go_loop [3, 9] (fun s i => s = .int .i64 0 ∧ i = .int .i64 0) (fun _ _ => 0)
    case atStart => exact ⟨rfl, rfl⟩
    case round =>
      obtain ⟨rfl, rfl⟩ := hrel
      go_wp2
      go_ret
      exact ⟨rfl, by repeat (first | exact Gn.refl _ | refine Gn.gr ?_ _ | refine Gn.alloc ?_ _)⟩
  · have hl := ht.1
    go_enter Try.func16, Try.ntmps16
    go_wp2
    go_loopw [3, 9] (fun s i wr => ∃ (k : Nat), k ≤ l.length ∧ i = .int .i64 k ∧ s = .int .i64 (sumW (l.take k)) ∧ Gn w wr) (fun _ i _ => l.length - (intOf i).toNat)
    case atStart => exact ⟨0, by omega, rfl, rfl, by repeat (first | exact Gn.refl _ | refine Gn.gr ?_ _ | refine Gn.alloc ?_ _)⟩
    case round =>
      obtain ⟨k, hk, rfl, rfl, p, rfl⟩ := hrel
      have hs := ht.sum k hk
      have hs1 := fun h : k < l.length => ht.2 _ (el_mem h)
      have hck := hc k
      go_wp2
      · have hlt : k < l.length := by assumption
        go_roundw
        case rel => exact ⟨k + 1, by omega, by go_num, by rw [take_el hlt, sumW_append]; simp [sumW], by repeat (first | exact Gn.refl _ | refine Gn.gr ?_ _ | refine Gn.alloc ?_ _)⟩
        case measure => simp [intOf]; omega
      · have hge : k = l.length := by omega
        subst hge
        go_ret
        exact ⟨int_ret (by rw [List.take_length]), by repeat (first | exact Gn.refl _ | refine Gn.gr ?_ _ | refine Gn.alloc ?_ _)⟩
end Go.Proofs.Ytidekhhelljjdaa
