/- The reference's sets: has, Without, Next, Rank, Nth, SameInts, Cut. -/
import Derived.Test.YtoaefmnjndklkaaDoorW47
namespace Go.Proofs.YtoaefmnjndklkaaDoor
open Go.RowKit

theorem il_mem {l : List Int} {k : Nat} (hk : k < l.length) : il l k ∈ l := by
  unfold il
  rw [List.getElem?_eq_getElem hk]
  exact List.getElem_mem hk
theorem take_il {l : List Int} {k : Nat} (hk : k < l.length) : l.take (k + 1) = l.take k ++ [il l k] := by
  rw [List.take_add_one, List.getElem?_eq_getElem hk]
  simp [il, hk]
theorem drop_il {l : List Int} {k : Nat} (hk : k < l.length) : l.drop k = il l k :: l.drop (k + 1) := by
  rw [List.drop_eq_getElem_cons hk]
  simp [il, hk]
/-- has. -/
theorem rhas_any (w : World) (base : Nat) (v : Value) (l : List Int) (n : Int) (h : IR w base v l) (hl : l.length ≤ 1000000) :
    Calls Tryd.prog 34 #[v, .int .i64 n] w fun e w' => e = .returned (.bool (decide (n ∈ l))) ∧ w = w' := by
  obtain ⟨o, c, rfl⟩ := h.shape
  have H : Hid (IR w base (.slice o l.length c) l) := h
  clear h
  go_enter Tryd.func34, Tryd.ntmps34
  go_wp2
  go_loop [5] (fun i => ∃ k : Nat, k ≤ l.length ∧ i = .int .i64 k ∧ n ∉ l.take k) (fun i => l.length - (intOf i).toNat)
  case atStart => exact ⟨0, by omega, rfl, by simp⟩
  case round =>
    obtain ⟨k, hk, rfl, hno⟩ := hrel
    have HNO : Hid (n ∉ l.take k) := hno
    clear hno
    by_cases hkl : k < l.length
    · obtain ⟨g, cap, he, hgl, ck⟩ := H.out.facts hkl
      cases he
      have hki : (k : Int) < (l.length : Int) := by omega
      have HT : Hid (l.take (k + 1) = l.take k ++ [il l k]) := take_il hkl
      have HMM : Hid (il l k ∈ l) := il_mem hkl
      generalize il l k = x at *
      by_cases hx : x = n
      · subst hx
        have HY : Hid (decide (x ∈ l) = true) := decide_eq_true HMM.out
        go_wp2
        go_ret
        rw [HY.out]
        exact ⟨rfl, rfl⟩
      · have t1 : (x == n) = false := by simp [hx]
        have HN2 : Hid (n ∉ l.take (k + 1)) := by
          show n ∉ l.take (k + 1)
          rw [HT.out, List.mem_append]
          rintro (h | h)
          · exact HNO.out h
          · simp at h; exact hx h.symm
        go_wp2
        go_round
        case rel => exact ⟨k + 1, by omega, by go_num, HN2.out⟩
        case measure => simp [intOf]; omega
    · obtain rfl : k = l.length := by omega
      have HY : Hid (decide (n ∈ l) = false) := decide_eq_false (by have := HNO.out; rwa [List.take_length] at this)
      go_wp2
      go_ret
      rw [HY.out]
      exact ⟨rfl, rfl⟩
/-- Those of a that b lacks. -/
def wo (a b : List Int) : List Int := a.filter fun x => !decide (x ∈ b)
theorem wo_len (a b : List Int) : (wo a b).length ≤ a.length := List.length_filter_le _ _
theorem rwithout_any (w : World) (ba bb : Nat) (v u : Value) (a b : List Int) (h : IR w ba v a) (h' : IR w bb u b) (hl : a.length ≤ 90000) (hl' : b.length ≤ 90000) :
    Calls Tryd.prog 18 #[v, u] w fun e w' => ∃ r, e = .returned r ∧ IR w' w.heap.size r (wo a b) ∧ Gn w w' := by
  obtain ⟨o, c, rfl⟩ := h.shape
  have H : Hid (IR w ba (.slice o a.length c) a) := h
  have H' : Hid (IR w bb u b) := h'
  clear h h'
  go_enter Tryd.func18, Tryd.ntmps18
  go_wp2
  go_loopw [5, 6] (fun r i wr => ∃ k : Nat, k ≤ a.length ∧ i = .int .i64 k ∧ IR wr w.heap.size r (wo (a.take k) b) ∧ Gn w wr) (fun _ i _ => a.length - (intOf i).toNat)
  case atStart => exact ⟨0, by omega, rfl, IR.nil _ _, Gn.refl _⟩
  case round =>
    obtain ⟨k, hk, rfl, hI, hg⟩ := hrel
    have HI : Hid (IR wr w.heap.size u5 (wo (a.take k) b)) := hI
    have HG : Hid (Gn w wr) := hg
    have hws := hg.size
    have hwl : (wo (a.take k) b).length ≤ 100000 := by
      have := wo_len (a.take k) b
      rw [List.length_take] at this
      omega
    clear hI hg
    by_cases hkl : k < a.length
    · obtain ⟨g, cap, he, hgl, ck⟩ := (H.out.gn HG.out).facts hkl
      cases he
      have hki : (k : Int) < (a.length : Int) := by omega
      have HT : Hid (a.take (k + 1) = a.take k ++ [il a k]) := take_il hkl
      generalize il a k = x at *
      have HH := rhas_any wr bb u b x (H'.out.gn HG.out) (by omega)
      by_cases hx : x ∈ b
      · rw [decide_eq_true hx] at HH
        have HC : Hid (Calls Tryd.prog 34 #[u, .int .i64 x] wr fun e w' => e = .returned (.bool true) ∧ wr = w') := HH
        have HW : Hid (wo (a.take (k + 1)) b = wo (a.take k) b) := by
          show _ = _
          rw [HT.out]
          simp [wo, hx]
        clear HH hx
        go_wp2_with (go_at_call 34; refine Calls.mono HC.out ?_; rintro _ _ ⟨rfl, rfl⟩)
        go_roundw
        case rel => exact ⟨k + 1, by omega, by go_num, by rw [HW.out]; exact HI.out, HG.out⟩
        case measure => simp [intOf]; omega
      · rw [decide_eq_false hx] at HH
        have HC : Hid (Calls Tryd.prog 34 #[u, .int .i64 x] wr fun e w' => e = .returned (.bool false) ∧ wr = w') := HH
        have HW : Hid (wo (a.take (k + 1)) b = wo (a.take k) b ++ [x]) := by
          show _ = _
          rw [HT.out]
          simp [wo, hx]
        clear HH hx
        go_wp2_with (first | (go_at_call 34; refine Calls.mono HC.out ?_; rintro _ _ ⟨rfl, rfl⟩) | (at_builtin; refine wpList_append_nu rfl _ _ rfl w.heap.size _ (wo (a.take k) b) x rfl (HI.out.gn ((Gn.refl _).alloc _)) rfl rfl hws hwl ?_; intro v2 w2 h1 h2; have H1 : Hid (IR w2 w.heap.size v2 (wo (a.take k) b ++ [x])) := h1; have HG2 : Hid (Gn w w2) := h2 w (Nat.le_refl _) HG.out; clear h1 h2))
        go_roundw
        case rel => exact ⟨k + 1, by omega, by go_num, by rw [HW.out]; exact H1.out, HG2.out⟩
        case measure => simp [intOf]; omega
    · obtain rfl : k = a.length := by omega
      have HT : Hid (a.take a.length = a) := List.take_length
      rw [HT.out] at HI
      go_wp2
      go_ret
      exact ⟨_, rfl, HI.out, HG.out⟩
/-- SameInts at equal lists. -/
theorem rsame_yes (w : World) (ba bb : Nat) (v u : Value) (l : List Int) (h : IR w ba v l) (h' : IR w bb u l) (hl : l.length ≤ 1000000) :
    Calls Tryd.prog 19 #[v, u] w fun e w' => e = .returned (.bool true) ∧ Gn w w' := by
  obtain ⟨o, c, rfl⟩ := h.shape
  obtain ⟨o', c', rfl⟩ := h'.shape
  have H : Hid (IR w ba (.slice o l.length c) l) := h
  have H' : Hid (IR w bb (.slice o' l.length c') l) := h'
  clear h h'
  go_enter Tryd.func19, Tryd.ntmps19
  go_wp2
  go_loopw [5] (fun i wr => ∃ k : Nat, k ≤ l.length ∧ i = .int .i64 k ∧ Gn w wr) (fun i _ => l.length - (intOf i).toNat)
  case atStart => exact ⟨0, by omega, rfl, Gn.refl _⟩
  case round =>
    obtain ⟨k, hk, rfl, hg⟩ := hrel
    have HG : Hid (Gn w wr) := hg
    clear hg
    by_cases hkl : k < l.length
    · obtain ⟨g, cap, he, hgl, ck⟩ := (H.out.gn HG.out).facts hkl
      cases he
      obtain ⟨g', cap', he', hgl', ck'⟩ := (H'.out.gn HG.out).facts hkl
      cases he'
      have hki : (k : Int) < (l.length : Int) := by omega
      generalize il l k = x at *
      go_wp2
      refine wp_region_gr (by kernel_rfl) (by kernel_rfl) ?_
      repeat (go_big_quiet_step (fail))
      refine wpQuiet_nil ?_
      rintro _ ⟨q1, rfl⟩
      go_wp2
      go_roundw
      case rel => exact ⟨k + 1, by omega, by go_num, HG.out.gr _⟩
      case measure => simp [intOf]; omega
    · obtain rfl : k = l.length := by omega
      go_wp2
      go_ret
      exact ⟨rfl, HG.out⟩
/-- The reference's set: its size, its numbers. -/
def RS (w : World) (xb : Nat) (P : Nat → Prop) (N : Nat) (l : List Int) : Prop := ∃ v, w.heap[xb]? = some (.cells #[.int .i64 N, v] 38 (0, 0)) ∧ IR w 0 v l ∧ ∀ k, v.ownBlock = some k → P k
section
variable {w w' : World} {xb N : Nat} {P Q S : Nat → Prop} {l : List Int}
theorem RS.kept (h : RS w xb P N l) (hk : Kp S w w') (h1 : ¬ S xb) (h2 : ∀ k, k < w.heap.size → P k → ¬ S k) : RS w' xb P N l := by
  obtain ⟨v, hb, hR, hP⟩ := h
  exact ⟨v, (hk.block xb (lt_of_block hb) h1).trans hb, hR.kp hk (fun k e => h2 k (hR.1.lt k e).2 (hP k e)), hP⟩
theorem RS.gn (h : RS w xb P N l) (hg : Gn w w') : RS w' xb P N l := h.kept (Kp.of_gn (fun _ => False) hg) (fun e => e) (fun _ _ _ e => e)
theorem RS.mono (h : RS w xb P N l) (hq : ∀ k, k < w.heap.size → P k → Q k) : RS w xb Q N l := by
  obtain ⟨v, hb, hR, hP⟩ := h
  exact ⟨v, hb, hR, fun k e => hq k (hR.1.lt k e).2 (hP k e)⟩
theorem RS.lt (h : RS w xb P N l) : xb < w.heap.size := by
  obtain ⟨v, hb, hR, hP⟩ := h
  exact lt_of_block hb
theorem RS.cells (h : RS w xb P N l) : ∃ o c, w.cell? ⟨xb, 0, none⟩ = some (.int .i64 N) ∧ w.cell? ⟨xb, 1, none⟩ = some (.slice o l.length c) ∧ IR w 0 (.slice o l.length c) l := by
  obtain ⟨v, hb, hR, hP⟩ := h
  obtain ⟨o, c, rfl⟩ := hR.shape
  refine ⟨o, c, ?_, ?_, hR⟩
  · unfold World.cell?; rw [hb]; rfl
  · unfold World.cell?; rw [hb]; rfl
theorem RS.frz (h : RS w xb P N l) (j : Nat) : w.frozen? ⟨xb, j, none⟩ = false := by
  obtain ⟨v, hb, _⟩ := h
  unfold World.frozen?; rw [hb]; simp
theorem RS.set {l' : List Int} {b : Nat} {v : Value} (h : RS w xb P N l) (hR : IR w b v l') (hb : xb < b) : RS (w.setCell ⟨xb, 1, none⟩ v) xb (fun k => b ≤ k) N l' := by
  obtain ⟨v0, h0, _⟩ := h
  exact ⟨v, heap_setCell_same w xb 1 _ 38 _ h0, ⟨own_kp hR.1 ((Kp.refl (fun k => k = xb) w).set xb _ _ rfl) (fun k e e2 => by have := hR.2 k e; omega), fun k e => Nat.zero_le _⟩, hR.2⟩
end
/-- Cut. -/
theorem rcut_any (w : World) (xb : Nat) (P : Nat → Prop) (N : Nat) (l : List Int) (n : Int) (h : RS w xb P N l) (hl : l.length ≤ 90000) :
    Calls Tryd.prog 33 #[.pointer (some ⟨xb, 0, none⟩), .int .i64 n] w fun e w' => e = .returned (.bool (decide (n ∈ l))) ∧ RS w' xb (fun k => w.heap.size ≤ k) N (wo l [n]) ∧ Kp (fun k => k = xb) w w' := by
  obtain ⟨o, c, c0, c1, hR⟩ := h.cells
  have fz := h.frz 1
  have hxb := h.lt
  have H : Hid (RS w xb P N l) := h
  have HR : Hid (IR w 0 (.slice o l.length c) l) := hR
  clear h hR
  go_enter Tryd.func33, Tryd.ntmps33
  have HG1 : Hid (Gn w (w.alloc (.cells #[.int .i64 n] 3))) := (Gn.refl w).alloc _
  have HO : Hid (IR (w.alloc (.cells #[.int .i64 n] 3)) 0 (.slice (some ⟨w.heap.size, 0, none⟩) 1 1) [n]) := ⟨⟨rfl, .inr ⟨w.heap.size, 1, #[.int .i64 n], rfl, Nat.zero_le _, heap_alloc_new _ _, by simp, by unfold maxLen; omega, rfl, rfl⟩⟩, fun k e => Nat.zero_le _⟩
  go_wp2_with (first | (go_at_call 34; refine Calls.mono (rhas_any w 0 _ l n HR.out (by omega)) ?_; rintro _ _ ⟨rfl, rfl⟩) | (go_at_call 18; refine Calls.mono (rwithout_any _ 0 0 _ _ l [n] (HR.out.gn HG1.out) HO.out (by omega) (by simp)) ?_; rintro _ w2 ⟨r, rfl, h1, h2⟩; obtain ⟨o2, c2, rfl⟩ := h1.shape; have HI2 : Hid (IR w2 w.heap.size (.slice o2 (wo l [n]).length c2) (wo l [n])) := h1.lower ((Gn.refl w).alloc _).size; have HG2 : Hid (Gn w w2) := HG1.out.trans h2; have c1b := gn_cell HG2.out c1; have fz2 : w2.frozen? ⟨xb, 1, none⟩ = false := (HG2.out.frozen _ hxb).trans fz; have hx2 : xb < w2.heap.size := Nat.lt_of_lt_of_le hxb HG2.out.size; clear h1 h2))
  go_ret
  exact ⟨rfl, (H.out.gn HG2.out).set HI2.out hxb, (Kp.of_gn _ HG2.out).set xb _ _ rfl⟩
/-- The first that is not below n. -/
def findI (l : List Int) (n : Int) : Int := match l.find? (fun j => decide (n ≤ j)) with
  | some j => j
  | none => -1
theorem rnext_any (w : World) (xb : Nat) (P : Nat → Prop) (N : Nat) (l : List Int) (n : Int) (h : RS w xb P N l) (hl : l.length ≤ 1000000) :
    Calls Tryd.prog 21 #[.pointer (some ⟨xb, 0, none⟩), .int .i64 n] w fun e w' => e = .returned (.int .i64 (findI l n)) ∧ w = w' := by
  obtain ⟨o, c, c0, c1, hR⟩ := h.cells
  have hxb := h.lt
  have HR : Hid (IR w 0 (.slice o l.length c) l) := hR
  clear h hR
  go_enter Tryd.func21, Tryd.ntmps21
  go_wp2
  go_loop [5] (fun i => ∃ k : Nat, k ≤ l.length ∧ i = .int .i64 k ∧ findI l n = findI (l.drop k) n) (fun i => l.length - (intOf i).toNat)
  case atStart => exact ⟨0, by omega, rfl, rfl⟩
  case round =>
    obtain ⟨k, hk, rfl, hf⟩ := hrel
    have HF : Hid (findI l n = findI (l.drop k) n) := hf
    clear hf
    by_cases hkl : k < l.length
    · obtain ⟨g, cap, he, hgl, ck⟩ := HR.out.facts hkl
      cases he
      have hki : (k : Int) < (l.length : Int) := by omega
      have HD : Hid (l.drop k = il l k :: l.drop (k + 1)) := drop_il hkl
      generalize il l k = x at *
      by_cases hx : n ≤ x
      · have HY : Hid (findI l n = x) := by
          show _ = _
          rw [HF.out, HD.out]
          unfold findI
          rw [List.find?_cons_of_pos (by simpa using hx)]
        go_wp2
        go_ret
        rw [HY.out]
        exact ⟨rfl, rfl⟩
      · have HN : Hid (findI l n = findI (l.drop (k + 1)) n) := by
          show _ = _
          rw [HF.out, HD.out]
          unfold findI
          rw [List.find?_cons_of_neg (by simpa using hx)]
        have hx2 : x < n := by omega
        go_wp2
        go_round
        case rel => exact ⟨k + 1, by omega, by go_num, HN.out⟩
        case measure => simp [intOf]; omega
    · obtain rfl : k = l.length := by omega
      have HY : Hid (findI l n = -1) := by
        show _ = _
        rw [HF.out, List.drop_length]
        rfl
      go_wp2
      go_ret
      rw [HY.out]
      exact ⟨rfl, rfl⟩
/-- How many are below n. -/
def lessI (l : List Int) (n : Int) : Nat := (l.filter fun x => decide (x < n)).length
theorem rrank_any (w : World) (xb : Nat) (P : Nat → Prop) (N : Nat) (l : List Int) (n : Int) (h : RS w xb P N l) (hl : l.length ≤ 1000000) :
    Calls Tryd.prog 22 #[.pointer (some ⟨xb, 0, none⟩), .int .i64 n] w fun e w' => e = .returned (.int .i64 (lessI l n)) ∧ w = w' := by
  obtain ⟨o, c, c0, c1, hR⟩ := h.cells
  have hxb := h.lt
  have HR : Hid (IR w 0 (.slice o l.length c) l) := hR
  clear h hR
  go_enter Tryd.func22, Tryd.ntmps22
  go_wp2
  go_loop [5, 6] (fun s i => ∃ k : Nat, k ≤ l.length ∧ i = .int .i64 k ∧ s = .int .i64 (lessI (l.take k) n)) (fun _ i => l.length - (intOf i).toNat)
  case atStart => exact ⟨0, by omega, rfl, rfl⟩
  case round =>
    obtain ⟨k, hk, rfl, rfl⟩ := hrel
    have hs1 : lessI (l.take k) n ≤ k := by
      unfold lessI
      refine Nat.le_trans (List.length_filter_le _ _) ?_
      rw [List.length_take]; omega
    by_cases hkl : k < l.length
    · obtain ⟨g, cap, he, hgl, ck⟩ := HR.out.facts hkl
      cases he
      have hki : (k : Int) < (l.length : Int) := by omega
      have HT : Hid (l.take (k + 1) = l.take k ++ [il l k]) := take_il hkl
      generalize il l k = x at *
      by_cases hx : x < n
      · have HY : Hid (lessI (l.take (k + 1)) n = lessI (l.take k) n + 1) := by
          show _ = _
          rw [HT.out]
          simp [lessI, List.filter_append, hx]
        generalize lessI (l.take k) n = s at *
        go_wp2
        go_round
        case rel => exact ⟨k + 1, by omega, by go_num, by rw [HY.out]; go_num⟩
        case measure => simp [intOf]; omega
      · have HY : Hid (lessI (l.take (k + 1)) n = lessI (l.take k) n) := by
          show _ = _
          rw [HT.out]
          simp [lessI, List.filter_append, hx]
        generalize lessI (l.take k) n = s at *
        go_wp2
        go_round
        case rel => exact ⟨k + 1, by omega, by go_num, by rw [HY.out]⟩
        case measure => simp [intOf]; omega
    · obtain rfl : k = l.length := by omega
      go_wp2
      go_ret
      exact ⟨rfl, rfl⟩
/-- A place of a list of ints: -1 where there is none. -/
def atI (l : List Int) (k : Int) : Int := if k < 0 ∨ (l.length : Int) ≤ k then -1 else il l k.toNat
theorem rnth_any (w : World) (xb : Nat) (P : Nat → Prop) (N : Nat) (l : List Int) (n : Int) (h : RS w xb P N l) (hl : l.length ≤ 1000000) :
    Calls Tryd.prog 23 #[.pointer (some ⟨xb, 0, none⟩), .int .i64 n] w fun e w' => e = .returned (.int .i64 (atI l n)) ∧ w = w' := by
  obtain ⟨o, c, c0, c1, hR⟩ := h.cells
  have hxb := h.lt
  unfold atI
  by_cases h1 : n < 0
  · rw [if_pos (.inl h1)]
    clear hR
    go_enter Tryd.func23, Tryd.ntmps23
    go_wp2
    go_ret
    exact ⟨rfl, rfl⟩
  · by_cases h2 : (l.length : Int) ≤ n
    · rw [if_pos (.inr h2)]
      have h3 : 0 ≤ n := by omega
      clear hR h1
      go_enter Tryd.func23, Tryd.ntmps23
      go_wp2
      go_ret
      exact ⟨rfl, rfl⟩
    · rw [if_neg (by omega)]
      obtain ⟨k, rfl⟩ : ∃ k : Nat, n = k := ⟨n.toNat, by omega⟩
      have hk : k < l.length := by omega
      obtain ⟨g, cap, he, hgl, ck⟩ := hR.facts hk
      cases he
      have e : ((k : Int)).toNat = k := by omega
      rw [e]
      generalize il l k = x at *
      have h3 : (0 : Int) ≤ (k : Int) := by omega
      have h4 : (k : Int) < (l.length : Int) := by omega
      clear hR h1 h2 e h
      go_enter Tryd.func23, Tryd.ntmps23
      go_wp2
      go_ret
      exact ⟨rfl, rfl⟩
end Go.Proofs.YtoaefmnjndklkaaDoor
