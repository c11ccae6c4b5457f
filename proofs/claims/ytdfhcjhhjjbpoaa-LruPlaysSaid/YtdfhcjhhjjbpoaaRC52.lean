/- The reference's memory: Cut. -/
import Derived.Test.YtdfhcjhhjjbpoaaR52
namespace Go.Proofs.Ytdfhcjhhjjbpoaa
open Go.RowKit

def Z10 : Array Value := #[.int .i64 0, .bool false, .int .u64 0, .int .u64 0, .bool false, .int .u64 0, .int .u64 0, .int .i64 0, .int .i64 0, .int .i64 0]
theorem info58 : (Try.prog.info? 58).map (fun i => (i.zero, i.size, i.bytes)) = some (some (.agg Z10), 10, 80) := by kernel_rfl
theorem rrow (w : World) (r : Rw) (k : Nat) (hk : k < 10) : (w.alloc (.cells (rcs r) 58)).cell? ⟨w.heap.size, k, none⟩ = (rcs r).toList[k]? := by
  unfold World.cell?
  rw [heap_alloc_new]
  simp
/-- append of one row. -/
theorem wpList_append_rw {w : World} {ops : Array Oper} {rest : List Oper} {o : Oper} {a : Act} {Q : Exit → Act → World → Prop} (hgd : o.guard = none) (s x : Operand)
    (ho : o.op = .call { callee := .builtin .append, args := #[s, x], argTypes := #[41, 41] }) {w0 : World} (base : Nat) (v : Value) (l : List Rw) (t : Rw) (hs : a.eval s = v) (hown : RR w base v l) (hw : w0.alloc (.cells (rcs t) 58) = w) (hx : a.eval x = .slice (some ⟨w0.heap.size, 0, none⟩) 1 1) (hb : base ≤ w0.heap.size) (hbd : l.length ≤ 1000)
    (h : ∀ v' w', RR w' base v' (l ++ [t]) → (∀ b, b.heap.size ≤ base → Gn b w0 → Gn b w') → wpList Try.prog ops Q rest (a.put o.dst v') w') : wpList Try.prog ops Q (o :: rest) a w := by
  subst hw
  refine wpList_append_row hgd s x 41 58 (.agg Z10) 10 80 Try.underlying41 info58 rfl (by omega) ho v l.length (rws l) hs hown.1 w0.heap.size (rcs t).toList hx rfl (rrow w0 t) (one_rcs t) (by omega) (by omega) ?_
  intro v' w' h1 h2 h3
  refine h v' w' ⟨?_, ?_⟩ (fun b hbb hgn => (hgn.alloc _).grown h2 (fun k e => Nat.le_trans hbb (hown.2 k e)))
  · have e1 : (l ++ [t]).length = l.length + 1 := by simp
    have e2 : rws (l ++ [t]) = rws l ++ (rcs t).toList := by simp [rws]
    rw [e1, e2]; exact h1
  · intro k e
    rcases h3 with h3 | h3
    · rw [h3] at e; exact hown.2 k e
    · rw [h3, size_alloc] at e; cases e; omega
theorem take_rl {l : List Rw} {k : Nat} (hk : k < l.length) : l.take (k + 1) = l.take k ++ [rl l k] := by
  rw [List.take_add_one, List.getElem?_eq_getElem hk]
  simp [rl, hk]
theorem cutR_yes {l : List Rw} {k : Nat} {t : Tup} (hk : k < l.length) (he : (rl l k).1 = t) : cutR t (l.take (k + 1)) = cutR t (l.take k) := by
  rw [take_rl hk]; simp [cutR, he]
theorem cutR_no {l : List Rw} {k : Nat} {t : Tup} (hk : k < l.length) (he : (rl l k).1 ≠ t) : cutR t (l.take (k + 1)) = cutR t (l.take k) ++ [rl l k] := by
  rw [take_rl hk]; simp [cutR, he]
theorem cutR_len (t : Tup) (l : List Rw) (k : Nat) : (cutR t (l.take k)).length ≤ l.length := by
  refine Nat.le_trans (List.length_filter_le _ _) ?_
  rw [List.length_take]; omega
def hasR (t : Tup) (l : List Rw) : Bool := l.any fun r => decide (r.1 = t)
theorem hasR_yes {l : List Rw} {k : Nat} {t : Tup} (hk : k < l.length) (he : (rl l k).1 = t) : hasR t (l.take (k + 1)) = true := by
  rw [take_rl hk]; simp [hasR, he]
theorem hasR_no {l : List Rw} {k : Nat} {t : Tup} (hk : k < l.length) (he : (rl l k).1 ≠ t) : hasR t (l.take (k + 1)) = hasR t (l.take k) := by
  rw [take_rl hk]; simp [hasR, he]
theorem RM.frz {w : World} {xb : Nat} {P : Nat → Prop} {room : Int} {l : List Rw} (h : RM w xb P room l) (j : Nat) : w.frozen? ⟨xb, j, none⟩ = false := by
  obtain ⟨v, hb, _⟩ := h
  unfold World.frozen?; rw [hb]; simp
theorem RM.set {w : World} {xb : Nat} {P : Nat → Prop} {room : Int} {l l' : List Rw} {b : Nat} {v : Value} (h : RM w xb P room l) (hR : RR w b v l') (hb : xb < b) : RM (w.setCell ⟨xb, 1, none⟩ v) xb (fun k => b ≤ k) room l' := by
  obtain ⟨v0, h0, _⟩ := h
  exact ⟨v, heap_setCell_same w xb 1 _ 43 _ h0, ⟨own_kp hR.1 ((Kp.refl (fun k => k = xb) w).set xb _ _ rfl) (fun k e e2 => by have := hR.2 k e; omega), fun k e => Nat.zero_le _⟩, hR.2⟩
theorem rcut_any (w : World) (xb : Nat) (P : Nat → Prop) (room : Int) (l : List Rw) (h : RM w xb P room l) (hl : l.length ≤ 1000) (t : Tup) :
    Calls Try.prog 13 #[.pointer (some ⟨xb, 0, none⟩), t.val] w fun e w' => e = .returned (.bool (hasR t l)) ∧ RM w' xb (fun k => w.heap.size ≤ k) room (cutR t l) ∧ Kp (fun k => k = xb) w w' := by
  have HM : Hid (RM w xb P room l) := h
  have HG : Hid (Gn w (w.alloc (.cells t.cs 32))) := (Gn.refl w).alloc _
  have HB : Hid (Bx (w.alloc (.cells t.cs 32)) w.heap.size t) := Bx.new w t
  have hxb := h.lt
  clear h
  simp only [Tup.val, Tup.cs] at HG HB ⊢
  go_enter Try.func13, Try.ntmps13
  go_wp2
  go_loopw [5, 6, 7] (fun u b i wr => ∃ k : Nat, k ≤ l.length ∧ i = .int .i64 k ∧ b = .bool (hasR t (l.take k)) ∧ RR wr (w.heap.size + 1) u (cutR t (l.take k)) ∧ Gn (w.alloc (.cells t.cs 32)) wr) (fun _ _ i _ => l.length - (intOf i).toNat)
  case atStart => exact ⟨0, by omega, rfl, rfl, ⟨World.ownsRow_nil _ _ _ _, fun k e => by cases e⟩, Gn.refl _⟩
  case round =>
    obtain ⟨k, hk, rfl, rfl, hu, hg⟩ := hrel
    have HU : Hid (RR wr (w.heap.size + 1) u5 (cutR t (l.take k))) := hu
    have HG1 : Hid (Gn (w.alloc (.cells t.cs 32)) wr) := hg
    have hM := HM.out.gn (HG.out.trans hg)
    obtain ⟨o, c, c0, c1, hR⟩ := hM.cells
    have fz := hM.frz 1
    have hwr : w.heap.size ≤ wr.heap.size := (HG.out.trans hg).size
    have hxr : xb < wr.heap.size := by omega
    by_cases hkl : k < l.length
    · have HR : Hid (RR wr 0 (.slice o l.length c) l) := hR
      obtain ⟨g, cap, he, hgl, d0, d1, d2, d3, d4, d5, d6, d7, d8, d9⟩ := hR.facts hkl
      cases he
      obtain ⟨b0, b1, b2, b3, b4, b5, b6, b7, b8⟩ := (HB.out.kept (Kp.of_gn (fun _ => False) HG1.out) (fun e => e)).cells
      have hbl : w.heap.size < wr.heap.size := by have := HG1.out.size; rw [size_alloc] at this; omega
      have hki : (k : Int) < (l.length : Int) := by omega
      by_cases he : (rl l k).1 = t
      · have HY : Hid (cutR t (l.take (k + 1)) = cutR t (l.take k)) := cutR_yes hkl he
        have HH : Hid (hasR t (l.take (k + 1)) = true) := hasR_yes hkl he
        have heq := fun w => eq_tup w t t
        simp only [decide_true, Tup.val, Tup.cs] at heq
        rw [he] at d0 d1 d2 d3 d4 d5 d6 d7 d8
        clear hR hM hu hg he
        go_wp2
        refine wp_region_gr (by kernel_rfl) (by kernel_rfl) ?_
        repeat (go_big_quiet_step (fail))
        refine wpQuiet_nil ?_
        rintro _ ⟨q1, rfl⟩
        go_wp2
        go_roundw
        case rel => exact ⟨k + 1, by omega, by go_num, by rw [HH.out], by rw [HY.out]; exact HU.out.gn ((Gn.refl _).gr _), HG1.out.gr _⟩
        case measure => simp [intOf]; omega
      · have HN : Hid (cutR t (l.take (k + 1)) = cutR t (l.take k) ++ [rl l k]) := cutR_no hkl he
        have HH : Hid (hasR t (l.take (k + 1)) = hasR t (l.take k)) := hasR_no hkl he
        have heq := fun w => eq_tup w (rl l k).1 t
        simp only [he, decide_false, Tup.val, Tup.cs] at heq
        have hcl : (cutR t (l.take k)).length ≤ 1000 := Nat.le_trans (cutR_len t l k) hl
        clear hR hM hu hg he
        go_wp2
        refine wp_region_gr (by kernel_rfl) (by kernel_rfl) ?_
        repeat (go_big_quiet_step (fail))
        refine wpQuiet_nil ?_
        rintro _ ⟨q1, rfl⟩
        have hwq : w.heap.size + 1 ≤ (wr.gr q1).heap.size := by rw [size_gr]; omega
        go_wp2_with (at_builtin; refine wpList_append_rw rfl _ _ rfl (w.heap.size + 1) _ (cutR t (l.take k)) (rl l k) rfl (HU.out.gn (((Gn.refl _).gr q1).alloc _)) rfl (by rw [size_gr]; rfl) hwq hcl ?_; intro v2 w2 h1 h2; have H1 : Hid (RR w2 (w.heap.size + 1) v2 (cutR t (l.take k) ++ [rl l k])) := h1; have HG2 : Hid (Gn (w.alloc (.cells t.cs 32)) w2) := h2 _ (Nat.le_of_eq (size_alloc _ _)) (HG1.out.gr q1); clear h1 h2)
        go_roundw
        case rel => exact ⟨k + 1, by omega, by go_num, by rw [HH.out], by rw [HN.out]; exact H1.out, HG2.out⟩
        case measure => simp [intOf]; omega
    · obtain rfl : k = l.length := by omega
      obtain ⟨o5, c5, rfl⟩ := hu.shape
      have HMr : Hid (RM wr xb P room l) := hM
      have HT : Hid (l.take l.length = l) := List.take_length
      clear hR hM hu hg
      go_wp2
      go_ret
      rw [HT.out] at HU ⊢
      exact ⟨rfl, (HMr.out.set HU.out (by omega)).mono (fun k _ e => Nat.le_of_succ_le e), (Kp.of_gn _ (HG.out.trans HG1.out)).set xb _ _ rfl⟩
end Go.Proofs.Ytdfhcjhhjjbpoaa
