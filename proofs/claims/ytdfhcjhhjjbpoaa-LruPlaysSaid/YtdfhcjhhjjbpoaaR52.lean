/- The reference's memory: New, Peek. -/
import Derived.Test.YtdfhcjhhjjbpoaaM52
namespace Go.Proofs.Ytdfhcjhhjjbpoaa
open Go.RowKit

abbrev Rw := Tup × Int
def rcs (r : Rw) : Array Value := #[.int .i64 r.1.p, .bool r.1.a, .int .u64 r.1.b, .int .u64 r.1.c, .bool r.1.d, .int .u64 r.1.e, .int .u64 r.1.f, .int .i64 r.1.s, .int .i64 r.1.t, .int .i64 r.2]
/-- The cells of rows. -/
def rws (l : List Rw) : List Value := l.flatMap fun r => (rcs r).toList
theorem rws_len (l : List Rw) : (rws l).length = l.length * 10 := by
  induction l with
  | nil => rfl
  | cons t l ih =>
    have : rws (t :: l) = (rcs t).toList ++ rws l := rfl
    rw [this, List.length_append, ih, List.length_cons]
    have : (rcs t).toList.length = 10 := rfl
    omega
theorem one_rcs (r : Rw) : ∀ u ∈ (rcs r).toList, u.oneCell' = true := by
  intro u hu
  simp only [rcs, List.mem_cons, List.not_mem_nil, or_false] at hu
  rcases hu with rfl | rfl | rfl | rfl | rfl | rfl | rfl | rfl | rfl | rfl <;> rfl
theorem one_rws (l : List Rw) : ∀ u ∈ rws l, u.oneCell' = true := by
  intro u hu
  obtain ⟨r, _, h⟩ := List.mem_flatMap.1 hu
  exact one_rcs r u h
def rl (l : List Rw) (k : Nat) : Rw := (l[k]?).getD (T0, 0)
theorem rws_at : ∀ (l : List Rw) (k j : Nat), k < l.length → j < 10 → (rws l)[k * 10 + j]? = (rcs (rl l k))[j]?
  | t :: l, 0, j, _, hj => by
    have e : rws (t :: l) = (rcs t).toList ++ rws l := rfl
    have hl : (rcs t).toList.length = 10 := rfl
    rw [e, Nat.zero_mul, Nat.zero_add, List.getElem?_append_left (by omega)]
    simp [rl]
  | t :: l, k + 1, j, hk, hj => by
    have e : rws (t :: l) = (rcs t).toList ++ rws l := rfl
    have hl : (rcs t).toList.length = 10 := rfl
    have e2 : (k + 1) * 10 + j - 10 = k * 10 + j := by omega
    rw [e, List.getElem?_append_right (by omega), hl, e2, rws_at l k j (by simpa using hk) hj]
    simp [rl]
/-- v is a row of rows, in blocks from base on. -/
def RR (w : World) (base : Nat) (v : Value) (l : List Rw) : Prop := w.ownsRow 0 58 10 v l.length (rws l) ∧ ∀ k, v.ownBlock = some k → base ≤ k
theorem RR.gn {w w' : World} {base : Nat} {v : Value} {l : List Rw} (h : RR w base v l) (hg : Gn w w') : RR w' base v l := ⟨own_gn h.1 hg, h.2⟩
theorem RR.shape {w : World} {base : Nat} {v : Value} {l : List Rw} (h : RR w base v l) : ∃ o c, v = .slice o l.length c := by
  rcases h.1.2 with ⟨e, h0⟩ | ⟨g, cap, _, e, _⟩
  · exact ⟨_, _, by rw [e, h0]⟩
  · exact ⟨_, _, e⟩
theorem RR.facts {w : World} {base : Nat} {v : Value} {l : List Rw} (h : RR w base v l) {k : Nat} (hk : k < l.length) : ∃ g cap, v = .slice (some ⟨g, 0, none⟩) l.length cap ∧ g < w.heap.size ∧
    w.cell? ⟨g, k * 10, none⟩ = some (.int .i64 (rl l k).1.p) ∧ w.cell? ⟨g, k * 10 + 1, none⟩ = some (.bool (rl l k).1.a) ∧ w.cell? ⟨g, k * 10 + 2, none⟩ = some (.int .u64 (rl l k).1.b) ∧ w.cell? ⟨g, k * 10 + 3, none⟩ = some (.int .u64 (rl l k).1.c) ∧ w.cell? ⟨g, k * 10 + 4, none⟩ = some (.bool (rl l k).1.d) ∧
    w.cell? ⟨g, k * 10 + 5, none⟩ = some (.int .u64 (rl l k).1.e) ∧ w.cell? ⟨g, k * 10 + 6, none⟩ = some (.int .u64 (rl l k).1.f) ∧ w.cell? ⟨g, k * 10 + 7, none⟩ = some (.int .i64 (rl l k).1.s) ∧ w.cell? ⟨g, k * 10 + 8, none⟩ = some (.int .i64 (rl l k).1.t) ∧ w.cell? ⟨g, k * 10 + 9, none⟩ = some (.int .i64 (rl l k).2) := by
  obtain ⟨g, cap, rfl⟩ := own_some h.1 (by omega)
  have hc : ∀ j, j < 10 → w.cell? ⟨g, k * 10 + j, none⟩ = (rcs (rl l k))[j]? := fun j hj => by rw [h.1.cellAt _ (by omega)]; exact rws_at l k j hk hj
  exact ⟨g, cap, rfl, (h.1.lt g rfl).2, hc 0 (by omega), hc 1 (by omega), hc 2 (by omega), hc 3 (by omega), hc 4 (by omega), hc 5 (by omega), hc 6 (by omega), hc 7 (by omega), hc 8 (by omega), hc 9 (by omega)⟩
/-- The reference's memory. -/
def RM (w : World) (xb : Nat) (P : Nat → Prop) (room : Int) (l : List Rw) : Prop := ∃ v, w.heap[xb]? = some (.cells #[.int .i64 room, v] 43 (0, 0)) ∧ RR w 0 v l ∧ ∀ k, v.ownBlock = some k → P k
theorem RM.kept {w w' : World} {xb : Nat} {P S : Nat → Prop} {room : Int} {l : List Rw} (h : RM w xb P room l) (hk : Kp S w w') (h1 : ¬ S xb) (h2 : ∀ k, k < w.heap.size → P k → ¬ S k) : RM w' xb P room l := by
  obtain ⟨v, hb, hR, hP⟩ := h
  exact ⟨v, (hk.block xb (lt_of_block hb) h1).trans hb, ⟨own_kp hR.1 hk (fun k e => h2 k (hR.1.lt k e).2 (hP k e)), hR.2⟩, hP⟩
theorem RM.gn {w w' : World} {xb : Nat} {P : Nat → Prop} {room : Int} {l : List Rw} (h : RM w xb P room l) (hg : Gn w w') : RM w' xb P room l := h.kept (Kp.of_gn (fun _ => False) hg) (fun e => e) (fun _ _ _ e => e)
theorem RM.mono {w : World} {xb : Nat} {P Q : Nat → Prop} {room : Int} {l : List Rw} (h : RM w xb P room l) (hq : ∀ k, k < w.heap.size → P k → Q k) : RM w xb Q room l := by
  obtain ⟨v, hb, hR, hP⟩ := h
  exact ⟨v, hb, hR, fun k e => hq k (hR.1.lt k e).2 (hP k e)⟩
theorem RM.lt {w : World} {xb : Nat} {P : Nat → Prop} {room : Int} {l : List Rw} (h : RM w xb P room l) : xb < w.heap.size := by
  obtain ⟨v, hb, hR, hP⟩ := h
  exact lt_of_block hb
theorem RM.cells {w : World} {xb : Nat} {P : Nat → Prop} {room : Int} {l : List Rw} (h : RM w xb P room l) : ∃ o c, w.cell? ⟨xb, 0, none⟩ = some (.int .i64 room) ∧ w.cell? ⟨xb, 1, none⟩ = some (.slice o l.length c) ∧ RR w 0 (.slice o l.length c) l := by
  obtain ⟨v, hb, hR, hP⟩ := h
  obtain ⟨o, c, rfl⟩ := hR.shape
  refine ⟨o, c, ?_, ?_, hR⟩
  · unfold World.cell?; rw [hb]; rfl
  · unfold World.cell?; rw [hb]; rfl
def findR (t : Tup) (l : List Rw) : Option Rw := l.find? fun r => decide (r.1 = t)
theorem drop_rl {l : List Rw} {k : Nat} (hk : k < l.length) : l.drop k = rl l k :: l.drop (k + 1) := by
  rw [List.drop_eq_getElem_cons hk]
  simp [rl, hk]
theorem findR_yes {l : List Rw} {k : Nat} {t : Tup} (hk : k < l.length) (h : findR t l = findR t (l.drop k)) (he : (rl l k).1 = t) : findR t l = some (rl l k) := by
  rw [h, drop_rl hk]; simp [findR, he]
theorem findR_no {l : List Rw} {k : Nat} {t : Tup} (hk : k < l.length) (h : findR t l = findR t (l.drop k)) (he : (rl l k).1 ≠ t) : findR t l = findR t (l.drop (k + 1)) := by
  rw [h, drop_rl hk]; simp [findR, he]
theorem rnew_bad (w : World) (room : Int) (h : room < 0 ∨ 1024 < room) :
    Calls Try.prog 7 #[.int .i64 room] w fun e w' => e = .returned (.pointer none) ∧ w = w' := by
  go_enter Try.func7, Try.ntmps7
  by_cases h0 : room < 0
  · go_wp2
    go_ret
    exact ⟨rfl, rfl⟩
  · have h1 : 1024 < room := by omega
    have h2 : 0 ≤ room := by omega
    clear h h0
    go_wp2
    go_ret
    exact ⟨rfl, rfl⟩
theorem rnew_ok (w : World) (room : Int) (h0 : 0 ≤ room) (h1 : room ≤ 1024) :
    Calls Try.prog 7 #[.int .i64 room] w fun e w' => ∃ xb, e = .returned (.pointer (some ⟨xb, 0, none⟩)) ∧ w.heap.size ≤ xb ∧ RM w' xb (fun _ => False) room [] ∧ Gn w w' := by
  go_enter Try.func7, Try.ntmps7
  go_wp2
  go_ret
  exact ⟨w.heap.size, rfl, Nat.le_refl _, ⟨_, heap_alloc_new _ _, ⟨World.ownsRow_nil _ _ _ _, fun k e => by cases e⟩, fun k e => by cases e⟩, (Gn.refl w).alloc _⟩
def optN : Option Rw → Int
  | some r => r.2
  | none => 0
theorem rpeek_any (w : World) (xb : Nat) (P : Nat → Prop) (room : Int) (l : List Rw) (h : RM w xb P room l) (hl : l.length ≤ 1000) (t : Tup) :
    Calls Try.prog 11 #[.pointer (some ⟨xb, 0, none⟩), t.val] w fun e w' => e = .returned (.tuple #[.int .i64 (optN (findR t l)), .bool (findR t l).isSome]) ∧ Gn w w' := by
  have HM : Hid (RM w xb P room l) := h
  have HG : Hid (Gn w (w.alloc (.cells t.cs 32))) := (Gn.refl w).alloc _
  have HB : Hid (Bx (w.alloc (.cells t.cs 32)) w.heap.size t) := Bx.new w t
  have hxb := h.lt
  clear h
  simp only [Tup.val, Tup.cs] at HG HB ⊢
  go_enter Try.func11, Try.ntmps11
  go_wp2
  go_loopw [6] (fun i wr => ∃ k : Nat, k ≤ l.length ∧ i = .int .i64 k ∧ findR t l = findR t (l.drop k) ∧ Gn (w.alloc (.cells t.cs 32)) wr) (fun i _ => l.length - (intOf i).toNat)
  case atStart => exact ⟨0, by omega, rfl, rfl, Gn.refl _⟩
  case round =>
    obtain ⟨k, hk, rfl, hf, hg⟩ := hrel
    have HF : Hid (findR t l = findR t (l.drop k)) := hf
    have HG1 : Hid (Gn (w.alloc (.cells t.cs 32)) wr) := hg
    obtain ⟨o, c, c0, c1, hR⟩ := (HM.out.gn (HG.out.trans hg)).cells
    have hxr : xb < wr.heap.size := by have := (HG.out.trans hg).size; omega
    by_cases hkl : k < l.length
    · obtain ⟨g, cap, he, hgl, d0, d1, d2, d3, d4, d5, d6, d7, d8, d9⟩ := hR.facts hkl
      cases he
      obtain ⟨b0, b1, b2, b3, b4, b5, b6, b7, b8⟩ := (HB.out.kept (Kp.of_gn (fun _ => False) HG1.out) (fun e => e)).cells
      have hbl : w.heap.size < wr.heap.size := by have := HG1.out.size; rw [size_alloc] at this; omega
      have hki : (k : Int) < (l.length : Int) := by omega
      by_cases he : (rl l k).1 = t
      · have HY : Hid (findR t l = some (rl l k)) := findR_yes hkl HF.out he
        have heq := fun w => eq_tup w t t
        simp only [decide_true, Tup.val, Tup.cs] at heq
        rw [he] at d0 d1 d2 d3 d4 d5 d6 d7 d8
        clear hR hf hg he
        go_wp2
        refine wp_region_gr (by kernel_rfl) (by kernel_rfl) ?_
        repeat (go_big_quiet_step (fail))
        refine wpQuiet_nil ?_
        rintro _ ⟨q1, rfl⟩
        go_wp2
        go_ret2
        rw [HY.out]
        exact ⟨rfl, HG.out.trans (HG1.out.gr _)⟩
      · have HN : Hid (findR t l = findR t (l.drop (k + 1))) := findR_no hkl HF.out he
        have heq := fun w => eq_tup w (rl l k).1 t
        simp only [he, decide_false, Tup.val, Tup.cs] at heq
        clear hR hf hg he
        go_wp2
        refine wp_region_gr (by kernel_rfl) (by kernel_rfl) ?_
        repeat (go_big_quiet_step (fail))
        refine wpQuiet_nil ?_
        rintro _ ⟨q1, rfl⟩
        go_wp2
        go_roundw
        case rel => exact ⟨k + 1, by omega, by go_num, HN.out, HG1.out.gr _⟩
        case measure => simp [intOf]; omega
    · obtain rfl : k = l.length := by omega
      have HN : Hid (findR t l = none) := by
        have := HF.out
        rw [List.drop_length] at this
        exact this
      clear hR hf hg
      go_wp2
      go_ret2
      rw [HN.out]
      exact ⟨rfl, HG.out.trans HG1.out⟩
end Go.Proofs.Ytdfhcjhhjjbpoaa
