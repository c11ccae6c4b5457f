/- Lemmas on worlds that have grown: 'w.gr p' is w with new blocks behind its heap and another count of draws; what was there reads as it did. No condition. -/
import Derived.Test.YtoaefmnjndklkaaDoorRows
import Derived.WalkKit
import Derived.BigQuiet
import Derived.ProofKit
namespace Go.Proofs.YtoaefmnjndklkaaDoor
open Go.RowKit

/-- What a grown world has more: the count of draws, and new blocks. -/
structure Gr where
  d : Nat
  os : Array Obj
  deriving Inhabited

def _root_.Go.World.gr (w : World) (p : Gr) : World := { w with heap := w.heap ++ p.os, drawn := p.d }

/-- w' is w, grown. -/
def Gn (w w' : World) : Prop := ∃ p : Gr, w' = w.gr p

theorem heap_gr_old (w : World) (p : Gr) {k : Nat} (h : k < w.heap.size) : (w.gr p).heap[k]? = w.heap[k]? := by simp [World.gr, Array.getElem?_append, h]
@[simp] theorem size_gr (w : World) (p : Gr) : (w.gr p).heap.size = w.heap.size + p.os.size := by simp [World.gr]
@[simp] theorem tape_gr (w : World) (p : Gr) : (w.gr p).tape = w.tape := rfl
@[go_sem] theorem cell?_gr (w : World) (p : Gr) (n i : Nat) (h : n < w.heap.size) : (w.gr p).cell? ⟨n, i, none⟩ = w.cell? ⟨n, i, none⟩ := by
  simp only [World.cell?, heap_gr_old w p h]
@[go_sem] theorem frozen?_gr (w : World) (p : Gr) (n i : Nat) (h : n < w.heap.size) : (w.gr p).frozen? ⟨n, i, none⟩ = w.frozen? ⟨n, i, none⟩ := by
  simp only [World.frozen?, heap_gr_old w p h]
@[go_sem] theorem drew_gr (w : World) (p : Gr) : (w.gr p).drew = w.gr ⟨p.d + 1, p.os⟩ := rfl
@[go_sem] theorem gr_drew (w : World) (p : Gr) : w.drew.gr p = w.gr p := rfl
@[go_sem] theorem lt_more1 {a b : Nat} (x1 : Nat) (h : b < a) : (b < a + x1) = True := by simp only [eq_iff_iff, iff_true]; omega
@[go_sem] theorem lt_self2 (a x1 x2 : Nat) : (a < a + x1 + x2) = (0 < x1 ∨ 0 < x2) := by simp only [eq_iff_iff]; omega
@[go_sem] theorem lt_more2 {a b : Nat} (x1 x2 : Nat) (h : b < a) : (b < a + x1 + x2) = True := by simp only [eq_iff_iff, iff_true]; omega
@[go_sem] theorem lt_lit2 (a n x1 x2 : Nat) : (a + 1 < a + n + x1 + x2) = (1 < n + x1 + x2) := by simp only [eq_iff_iff]; omega
@[go_sem] theorem lt_self3 (a x1 x2 x3 : Nat) : (a < a + x1 + x2 + x3) = (0 < x1 ∨ 0 < x2 ∨ 0 < x3) := by simp only [eq_iff_iff]; omega
@[go_sem] theorem lt_more3 {a b : Nat} (x1 x2 x3 : Nat) (h : b < a) : (b < a + x1 + x2 + x3) = True := by simp only [eq_iff_iff, iff_true]; omega
@[go_sem] theorem lt_lit3 (a n x1 x2 x3 : Nat) : (a + 1 < a + n + x1 + x2 + x3) = (1 < n + x1 + x2 + x3) := by simp only [eq_iff_iff]; omega
@[go_sem] theorem lt_self4 (a x1 x2 x3 x4 : Nat) : (a < a + x1 + x2 + x3 + x4) = (0 < x1 ∨ 0 < x2 ∨ 0 < x3 ∨ 0 < x4) := by simp only [eq_iff_iff]; omega
@[go_sem] theorem lt_more4 {a b : Nat} (x1 x2 x3 x4 : Nat) (h : b < a) : (b < a + x1 + x2 + x3 + x4) = True := by simp only [eq_iff_iff, iff_true]; omega
@[go_sem] theorem lt_lit4 (a n x1 x2 x3 x4 : Nat) : (a + 1 < a + n + x1 + x2 + x3 + x4) = (1 < n + x1 + x2 + x3 + x4) := by simp only [eq_iff_iff]; omega
@[go_sem] theorem lt_self5 (a x1 x2 x3 x4 x5 : Nat) : (a < a + x1 + x2 + x3 + x4 + x5) = (0 < x1 ∨ 0 < x2 ∨ 0 < x3 ∨ 0 < x4 ∨ 0 < x5) := by simp only [eq_iff_iff]; omega
@[go_sem] theorem lt_more5 {a b : Nat} (x1 x2 x3 x4 x5 : Nat) (h : b < a) : (b < a + x1 + x2 + x3 + x4 + x5) = True := by simp only [eq_iff_iff, iff_true]; omega
@[go_sem] theorem lt_lit5 (a n x1 x2 x3 x4 x5 : Nat) : (a + 1 < a + n + x1 + x2 + x3 + x4 + x5) = (1 < n + x1 + x2 + x3 + x4 + x5) := by simp only [eq_iff_iff]; omega
@[go_sem] theorem lt_self6 (a x1 x2 x3 x4 x5 x6 : Nat) : (a < a + x1 + x2 + x3 + x4 + x5 + x6) = (0 < x1 ∨ 0 < x2 ∨ 0 < x3 ∨ 0 < x4 ∨ 0 < x5 ∨ 0 < x6) := by simp only [eq_iff_iff]; omega
@[go_sem] theorem lt_more6 {a b : Nat} (x1 x2 x3 x4 x5 x6 : Nat) (h : b < a) : (b < a + x1 + x2 + x3 + x4 + x5 + x6) = True := by simp only [eq_iff_iff, iff_true]; omega
@[go_sem] theorem lt_lit6 (a n x1 x2 x3 x4 x5 x6 : Nat) : (a + 1 < a + n + x1 + x2 + x3 + x4 + x5 + x6) = (1 < n + x1 + x2 + x3 + x4 + x5 + x6) := by simp only [eq_iff_iff]; omega
@[go_sem] theorem lt_self7 (a x1 x2 x3 x4 x5 x6 x7 : Nat) : (a < a + x1 + x2 + x3 + x4 + x5 + x6 + x7) = (0 < x1 ∨ 0 < x2 ∨ 0 < x3 ∨ 0 < x4 ∨ 0 < x5 ∨ 0 < x6 ∨ 0 < x7) := by simp only [eq_iff_iff]; omega
@[go_sem] theorem lt_more7 {a b : Nat} (x1 x2 x3 x4 x5 x6 x7 : Nat) (h : b < a) : (b < a + x1 + x2 + x3 + x4 + x5 + x6 + x7) = True := by simp only [eq_iff_iff, iff_true]; omega
@[go_sem] theorem lt_lit7 (a n x1 x2 x3 x4 x5 x6 x7 : Nat) : (a + 1 < a + n + x1 + x2 + x3 + x4 + x5 + x6 + x7) = (1 < n + x1 + x2 + x3 + x4 + x5 + x6 + x7) := by simp only [eq_iff_iff]; omega
@[go_sem] theorem lt_self8 (a x1 x2 x3 x4 x5 x6 x7 x8 : Nat) : (a < a + x1 + x2 + x3 + x4 + x5 + x6 + x7 + x8) = (0 < x1 ∨ 0 < x2 ∨ 0 < x3 ∨ 0 < x4 ∨ 0 < x5 ∨ 0 < x6 ∨ 0 < x7 ∨ 0 < x8) := by simp only [eq_iff_iff]; omega
@[go_sem] theorem lt_more8 {a b : Nat} (x1 x2 x3 x4 x5 x6 x7 x8 : Nat) (h : b < a) : (b < a + x1 + x2 + x3 + x4 + x5 + x6 + x7 + x8) = True := by simp only [eq_iff_iff, iff_true]; omega
@[go_sem] theorem lt_lit8 (a n x1 x2 x3 x4 x5 x6 x7 x8 : Nat) : (a + 1 < a + n + x1 + x2 + x3 + x4 + x5 + x6 + x7 + x8) = (1 < n + x1 + x2 + x3 + x4 + x5 + x6 + x7 + x8) := by simp only [eq_iff_iff]; omega
@[go_sem] theorem gr_gr (w : World) (p q : Gr) : (w.gr p).gr q = w.gr ⟨q.d, p.os ++ q.os⟩ := by simp [World.gr, Array.append_assoc]
@[go_sem] theorem setCell_gr (w : World) (p : Gr) (n i : Nat) (v : Value) (h : n < w.heap.size) : (w.gr p).setCell ⟨n, i, none⟩ v = (w.setCell ⟨n, i, none⟩ v).gr p := by
  unfold World.setCell World.gr
  simp only
  congr 1
  apply Array.ext_getElem?
  intro k
  simp only [Array.getElem?_modify, Array.getElem?_append, Array.size_modify]
  by_cases hk : k < w.heap.size
  · simp [hk]
  · have : n ≠ k := by omega
    simp [hk, this]

theorem Gn.refl (w : World) : Gn w w := ⟨⟨w.drawn, #[]⟩, by simp [World.gr]⟩
theorem Gn.trans {a b c : World} (h : Gn a b) (k : Gn b c) : Gn a c := by
  obtain ⟨p, rfl⟩ := h
  obtain ⟨q, rfl⟩ := k
  exact ⟨⟨q.d, p.os ++ q.os⟩, by simp [World.gr, Array.append_assoc]⟩
theorem Gn.gr {a w : World} (h : Gn a w) (p : Gr) : Gn a (w.gr p) := h.trans ⟨p, rfl⟩
theorem Gn.drew {a w : World} (h : Gn a w) : Gn a w.drew := h.trans ⟨⟨w.drawn + 1, #[]⟩, by unfold World.gr; simp only [Array.append_empty]; rfl⟩
theorem Gn.alloc {a w : World} (h : Gn a w) (o : Obj) : Gn a (w.alloc o) := h.trans ⟨⟨w.drawn, #[o]⟩, by
  unfold World.alloc World.gr
  rw [Array.append_singleton]⟩
theorem Gn.below {w w' : World} (h : Gn w w') : Below w.heap.size w w' := by
  obtain ⟨p, rfl⟩ := h
  exact ⟨rfl, rfl, rfl, by simp, fun k hk => heap_gr_old w p hk⟩
theorem Gn.of_below {w w' : World} (h : Below w.heap.size w w') : Gn w w' := by
  refine ⟨⟨w'.drawn, w'.heap.extract w.heap.size w'.heap.size⟩, ?_⟩
  obtain ⟨heap', tape', drawn', os', output'⟩ := w'
  have e1 : os' = w.os := h.os
  have e2 : tape' = w.tape := h.tape
  have e3 : output' = w.output := h.output
  have hs : w.heap.size ≤ heap'.size := h.size
  have hb : ∀ k, k < w.heap.size → heap'[k]? = w.heap[k]? := h.block
  subst e1 e2 e3
  have eh : heap' = w.heap ++ heap'.extract w.heap.size heap'.size := by
    apply Array.ext_getElem?
    intro k
    by_cases hk : k < w.heap.size
    · rw [Array.getElem?_append_left hk]; exact hb k hk
    · rw [Array.getElem?_append_right (by omega), Array.getElem?_extract]
      by_cases hk2 : k < heap'.size
      · rw [if_pos (by omega)]; congr 1; omega
      · rw [if_neg (by omega), Array.getElem?_eq_none (by omega)]
  simp only [World.gr]
  congr 1
theorem Gn.size {w w' : World} (h : Gn w w') : w.heap.size ≤ w'.heap.size := h.below.size
/-- A store into a block that is new since a. -/
theorem Gn.setCell {a w : World} (h : Gn a w) {p : Addr} (hp : a.heap.size ≤ p.block) (v : Value) : Gn a (w.setCell p v) :=
  Gn.of_below (h.below.setCell hp v)
theorem Gn.grown {a w w' : World} {row : Option Nat} (h : Gn a w) (hg : w.grownBy w' row) (hr : ∀ k, row = some k → a.heap.size ≤ k) : Gn a w' :=
  Gn.of_below (h.below.grown hg h.size hr)
theorem Gn.frame {W w' : World} (h : Gn W w') (may : MemPlace → Prop) : W.keptBut w' may := h.below.frame may
theorem Gn.frozen {W w' : World} (h : Gn W w') (a : Addr) (ha : a.block < W.heap.size) : w'.frozen? a = W.frozen? a := h.below.frozen ha

/-- A region that draws its order, whose operations only read, whose callees leave a world that has grown: walked once, in the order of the text. -/
theorem wp_region_gr {P : Program} {id : Nat} {Q : Exit → Act → World → Prop} {a : Act} {w : World} {l : List Oper} (hm : P.follows .mixedOrders = true) (hB : Region.lexB .any l.toArray = true)
    (h : wpQuiet P l.toArray (fun w' => ∃ p : Gr, w' = w.gr p) (fun a' => ∀ w', (∃ p : Gr, w' = w.gr p) → Q .normal a' w') l a) : (Code.region id l.toArray true).wp P Q a w :=
  wp_region_quiet (C := fun w' => ∃ p : Gr, w' = w.gr p) hm hB ⟨⟨w.drawn + 1, #[]⟩, by simp [World.gr]⟩ (by simpa using h)
/-- A callee's contract, met in a world that has grown. -/
theorem Calls.in_gr {P : Program} {f : FuncId} {args : Array Value} {w : World} {p : Gr} {v : Value}
    (h : Calls P f args (w.gr p) fun e w' => e = .returned v ∧ Gn (w.gr p) w') : Calls P f args (w.gr p) fun e w'' => e = .returned v ∧ ∃ q : Gr, w'' = w.gr q :=
  h.mono fun _ _ ⟨he, hb⟩ => ⟨he, (Gn.refl w).gr p |>.trans hb⟩
theorem Calls.in_gr_same {P : Program} {f : FuncId} {args : Array Value} {w : World} {p : Gr} {v : Value}
    (h : Calls P f args (w.gr p) fun e w' => e = .returned v ∧ w.gr p = w') : Calls P f args (w.gr p) fun e w'' => e = .returned v ∧ ∃ q : Gr, w'' = w.gr q :=
  h.mono fun _ _ ⟨he, hb⟩ => ⟨he, p, hb.symm⟩
theorem Calls.gn {P : Program} {f : FuncId} {args : Array Value} {w : World} {R : Ending → Prop} (h : Calls P f args w fun e w' => R e ∧ w = w') : Calls P f args w fun e w' => R e ∧ Gn w w' :=
  h.mono fun _ _ ⟨he, hw⟩ => ⟨he, hw ▸ Gn.refl _⟩

theorem int_ret {k : IntKind} {a b : Int} (h : a = b) : Ending.returned (.int k a) = .returned (.int k b) := by rw [h]
theorem bool_ret {a b : Bool} (h : a = b) : Ending.returned (.bool a) = .returned (.bool b) := by rw [h]
theorem wf_i64 {n : Int} (h : (Lit.int .i64 n).wf = true) : -9223372036854775808 ≤ n ∧ n ≤ 9223372036854775807 := by
  simpa [Lit.wf, IntKind.min, IntKind.max, IntKind.signed, IntKind.bits] using h
theorem wf_u64 {n : Int} (h : (Lit.int .u64 n).wf = true) : 0 ≤ n ∧ n ≤ 18446744073709551615 := by
  simpa [Lit.wf, IntKind.min, IntKind.max, IntKind.signed, IntKind.bits] using h
theorem wf_u32 {n : Int} (h : (Lit.int .u32 n).wf = true) : 0 ≤ n ∧ n ≤ 4294967295 := by
  simpa [Lit.wf, IntKind.min, IntKind.max, IntKind.signed, IntKind.bits] using h
theorem wf_u16 {n : Int} (h : (Lit.int .u16 n).wf = true) : 0 ≤ n ∧ n ≤ 65535 := by
  simpa [Lit.wf, IntKind.min, IntKind.max, IntKind.signed, IntKind.bits] using h
theorem wf_u8 {n : Int} (h : (Lit.int .u8 n).wf = true) : 0 ≤ n ∧ n ≤ 255 := by
  simpa [Lit.wf, IntKind.min, IntKind.max, IntKind.signed, IntKind.bits] using h
end Go.Proofs.YtoaefmnjndklkaaDoor
