/- Appending to the rows of a memory; slot. -/
import Derived.Test.YtdfhcjhhjjbpoaaA52
import Derived.Deep.AppendLies
namespace Go.Proofs.Ytdfhcjhhjjbpoaa
open Go.RowKit

theorem info3 : (Try.prog.info? 3).map (fun i => (i.zero, i.size, i.bytes)) = some (some (.int .i64 0), 1, 8) := by kernel_rfl
def T0 : Tup := ⟨0, false, 0, 0, false, 0, 0, 0, 0⟩
def Z12 : Array Value := #[.int .i64 0, .bool false, .int .u64 0, .int .u64 0, .bool false, .int .u64 0, .int .u64 0, .int .i64 0, .int .i64 0, .int .i64 0, .int .i64 0, .int .i64 0]
theorem info56 : (Try.prog.info? 56).map (fun i => (i.zero, i.size, i.bytes)) = some (some (.agg Z12), 12, 96) := by kernel_rfl
/-- append of what stands in the cells from a on, to a row of the call's own. -/
theorem wpList_append_row {w : World} {ops : Array Oper} {rest : List Oper} {o : Oper} {a : Act} {Q : Exit → Act → World → Prop} (hgd : o.guard = none) (s x : Operand) (T e : TypeId) (z : Value) (size bytes : Nat) (hT : Try.prog.underlying T = some (.slice e))
    (hi : (Try.prog.info? e).map (fun i => (i.zero, i.size, i.bytes)) = some (some z, size, bytes)) (hzs : z.cells.size = size) (hsz : 0 < size)
    (ho : o.op = .call { callee := .builtin .append, args := #[s, x], argTypes := #[T, T] })
    (v : Value) (n : Nat) (xs : List Value) (hs : a.eval s = v) (hown : w.ownsRow 0 e size v n xs) (b : Nat) (ys : List Value) (hx : a.eval x = .slice (some ⟨b, 0, none⟩) 1 1) (hl : ys.length = size)
    (hr : ∀ k, k < size → w.cell? ⟨b, k, none⟩ = ys[k]?) (h1 : ∀ u ∈ ys, u.oneCell' = true) (hbd : n + 1 ≤ 1000000) (hby : bytes ≤ 1000)
    (h : ∀ v' w', w'.ownsRow 0 e size v' (n + 1) (xs ++ ys) → w.grownBy w' v.ownBlock → (v'.ownBlock = v.ownBlock ∨ v'.ownBlock = some w.heap.size) → wpList Try.prog ops Q rest (a.put o.dst v') w') : wpList Try.prog ops Q (o :: rest) a w :=
  wpList_plain hgd fun _ hK => by
    obtain ⟨i0, hi0, hz0, hz1, hz2⟩ := info_parts hi
    have hadd : ∀ j, Addr.add ⟨b, 0, none⟩ j = ⟨b, j, none⟩ := fun j => by unfold Addr.add; split <;> simp_all
    obtain ⟨v', w', hrun, h2, h3, _, h5⟩ := run_append_own_at (P := Try.prog) w 0 T o.type e i0 z size bytes hT hi0 hz0 hz1 hz2 hzs hsz v n xs hown ⟨b, 0, none⟩ 1 1 ys (by omega)
      (fun j u hu => by
        have hj : j < size := by
          rcases Nat.lt_or_ge j size with h | h
          · exact h
          · rw [List.getElem?_eq_none (by omega)] at hu; cases hu
        rw [hadd, hr j hj]
        exact hu) h1 (by unfold maxLen; omega) (by have := Nat.mul_le_mul hbd hby; omega) (Nat.zero_le _)
    have hh := hK _ _ (h v' w' h2 h3 h5)
    unfold Oper.wp execOp
    simp only [ho, resolve, invoke, builtin, Sem.run_bind, Sem.run_pure, Result.andThen_ok, List.map_toArray, List.map_cons, List.map_nil, hs, hx, hrun]
    exact hh

def nats (l : List Nat) : List Value := l.map fun (n : Nat) => Value.int .i64 n
/-- A memory's own blocks, its map and its links apart: its block, and the row of free places. -/
structure Mx (w : World) (mb : Nat) (A : Nat → Prop) (room : Int) (r g n cap : Nat) (fv : Value) (fr : List Nat) : Prop where
  blk : w.heap[mb]? = some (.cells #[.int .i64 room, .map (some r), .slice (some ⟨g, 0, none⟩) n cap, fv] 53 (0, 0))
  fre : w.ownsRow 0 3 1 fv fr.length (nats fr)
  rlt : r < w.heap.size
  n1 : mb ≠ r
  n2 : mb ≠ g
  n3 : r ≠ g
  f1 : fv.ownBlock ≠ some mb
  f2 : fv.ownBlock ≠ some r
  f3 : fv.ownBlock ≠ some g
  a1 : A mb
  a2 : A r
  a3 : A g
  a4 : ∀ k, fv.ownBlock = some k → A k
section
variable {w : World} {mb : Nat} {A : Nat → Prop} {room : Int} {r g n cap : Nat} {fv : Value} {fr : List Nat}
theorem Mx.lt (h : Mx w mb A room r g n cap fv fr) : mb < w.heap.size := lt_of_block h.blk
theorem Mx.c0 (h : Mx w mb A room r g n cap fv fr) : w.cell? ⟨mb, 0, none⟩ = some (.int .i64 room) := by unfold World.cell?; rw [h.blk]; rfl
theorem Mx.c1 (h : Mx w mb A room r g n cap fv fr) : w.cell? ⟨mb, 1, none⟩ = some (.map (some r)) := by unfold World.cell?; rw [h.blk]; rfl
theorem Mx.c2 (h : Mx w mb A room r g n cap fv fr) : w.cell? ⟨mb, 2, none⟩ = some (.slice (some ⟨g, 0, none⟩) n cap) := by unfold World.cell?; rw [h.blk]; rfl
theorem Mx.c3 (h : Mx w mb A room r g n cap fv fr) : w.cell? ⟨mb, 3, none⟩ = some fv := by unfold World.cell?; rw [h.blk]; rfl
theorem Mx.frz (h : Mx w mb A room r g n cap fv fr) (j : Nat) : w.frozen? ⟨mb, j, none⟩ = false := by unfold World.frozen?; rw [h.blk]; simp
theorem own_kp {w w' : World} {S : Nat → Prop} {base : Nat} {e : TypeId} {size : Nat} {v : Value} {n : Nat} {xs : List Value} (h : w.ownsRow base e size v n xs) (hk : Kp S w w') (hs : ∀ k, v.ownBlock = some k → ¬ S k) : w'.ownsRow base e size v n xs := by
  rcases h with ⟨h1, h2 | ⟨g, cap, cur, hv, hbg, hg, r⟩⟩
  · exact ⟨h1, .inl h2⟩
  · subst hv
    exact ⟨h1, .inr ⟨g, cap, cur, rfl, hbg, (hk.block g (lt_of_block hg) (hs g rfl)).trans hg, r⟩⟩
theorem Mx.kept {w' : World} {S : Nat → Prop} (h : Mx w mb A room r g n cap fv fr) (hk : Kp S w w') (hs : ¬ S mb) (hs2 : ∀ k, fv.ownBlock = some k → ¬ S k) : Mx w' mb A room r g n cap fv fr :=
  { h with blk := (hk.block mb h.lt hs).trans h.blk, fre := own_kp h.fre hk hs2, rlt := by have := hk.size; have := h.rlt; omega }
theorem Mx.mono {A' : Nat → Prop} (h : Mx w mb A room r g n cap fv fr) (hA : ∀ k, A k → A' k) : Mx w mb A' room r g n cap fv fr :=
  { h with a1 := hA _ h.a1, a2 := hA _ h.a2, a3 := hA _ h.a3, a4 := fun k e => hA _ (h.a4 k e) }
end
section
variable {w : World} {mb : Nat} {A : Nat → Prop} {room : Int} {r g n cap : Nat} {fv : Value} {fr : List Nat}
theorem Mx.set3 (h : Mx w mb A room r g n cap fv fr) {fv' : Value} {fr' : List Nat} (hf : w.ownsRow 0 3 1 fv' fr'.length (nats fr')) (f1 : fv'.ownBlock ≠ some mb) (f2 : fv'.ownBlock ≠ some r) (f3 : fv'.ownBlock ≠ some g) (a4 : ∀ k, fv'.ownBlock = some k → A k) :
    Mx (w.setCell ⟨mb, 3, none⟩ fv') mb A room r g n cap fv' fr' :=
  have hg : w.grownBy (w.setCell ⟨mb, 3, none⟩ fv') (some mb) := gb_set (gb_refl _ _) _ _
  { h with blk := heap_setCell_same w mb 3 _ 53 fv' h.blk, fre := hf.kept hg (.inr f1), rlt := by have := hg.size; have := h.rlt; omega, f1 := f1, f2 := f2, f3 := f3, a4 := a4 }
theorem Mx.set2 (h : Mx w mb A room r g n cap fv fr) {g' n' cap' : Nat} (n2 : mb ≠ g') (n3 : r ≠ g') (f3 : fv.ownBlock ≠ some g') (a3 : A g') :
    Mx (w.setCell ⟨mb, 2, none⟩ (.slice (some ⟨g', 0, none⟩) n' cap')) mb A room r g' n' cap' fv fr :=
  have hg : w.grownBy (w.setCell ⟨mb, 2, none⟩ (.slice (some ⟨g', 0, none⟩) n' cap')) (some mb) := gb_set (gb_refl _ _) _ _
  { h with blk := heap_setCell_same w mb 2 _ 53 _ h.blk, fre := h.fre.kept hg (.inr h.f1), rlt := by have := hg.size; have := h.rlt; omega, n2 := n2, n3 := n3, f3 := f3, a3 := a3 }
end
/-- A's blocks and new ones. -/
def Nw (A : Nat → Prop) (w : World) : Nat → Prop := fun k => A k ∨ w.heap.size ≤ k
theorem slot_one (w : World) (mb : Nat) (A : Nat → Prop) (room : Int) (r g n cap : Nat) (fv : Value) (fr : List Nat) (i : Nat) (h : Mx w mb A room r g n cap fv (fr ++ [i])) (hfr : fr.length ≤ 1000) :
    Calls Try.prog 22 #[.pointer (some ⟨mb, 0, none⟩)] w fun e w' => e = .returned (.int .i64 i) ∧ (∃ fv', Mx w' mb A room r g n cap fv' fr) ∧ Kp (fun k => k = mb) w w' := by
  have hlen : (fr ++ [i]).length = fr.length + 1 := by simp
  have hf := h.fre
  rw [hlen] at hf
  rcases hf with ⟨hf1, ⟨_, hf2⟩ | ⟨fb, fcap, cur, rfl, _, hfb, hfn, hfm, hfs, hft⟩⟩
  · omega
  have c3 := h.c3
  have fz := h.frz 3
  have hmb := h.lt
  have hfbl := lt_of_block hfb
  have cf : w.cell? ⟨fb, fr.length, none⟩ = some (.int .i64 i) := by
    unfold World.cell?
    rw [hfb]
    have h9 : (cur.toList.take ((fr.length + 1) * 1))[fr.length]? = some (.int .i64 i) := by rw [hft]; simp [nats]
    rw [List.getElem?_take, if_pos (by omega)] at h9
    simpa using h9
  have HM : Hid (Mx w mb A room r g n cap (.slice (some ⟨fb, 0, none⟩) (fr.length + 1) fcap) (fr ++ [i])) := h
  have HT : Hid (cur.toList.take ((fr.length + 1) * 1) = nats (fr ++ [i])) := hft
  clear h hft
  have q1 : ((fr.length + 1 : Nat) : Int) - 1 = (fr.length : Int) := by omega
  go_enter Try.func22, Try.ntmps22
  go_wp2
  go_ret
  have h := HM.out
  refine ⟨rfl, ⟨_, h.set3 ⟨by simp [nats], .inr ⟨fb, fcap, cur, rfl, Nat.zero_le _, hfb, by omega, hfm, hfs, ?_⟩⟩ h.f1 h.f2 h.f3 h.a4⟩, (Kp.refl (fun k => k = mb) w).set mb _ _ rfl⟩
  have := congrArg (List.take fr.length) HT.out
  rw [List.take_take, Nat.mul_one, Nat.min_eq_left (by omega)] at this
  rw [Nat.mul_one, this]
  simp [nats]
theorem zrow (w : World) (k : Nat) (hk : k < 12) : (w.alloc (.cells Z12 56)).cell? ⟨w.heap.size, k, none⟩ = Z12.toList[k]? := by
  unfold World.cell?
  rw [heap_alloc_new]
  simp
theorem own_some {w : World} {base : Nat} {e : TypeId} {size : Nat} {v : Value} {n : Nat} {xs : List Value} (h : w.ownsRow base e size v n xs) (hn : 0 < n) : ∃ g cap, v = .slice (some ⟨g, 0, none⟩) n cap := by
  rcases h with ⟨_, ⟨_, h2⟩ | ⟨g, cap, _, e, _⟩⟩
  · omega
  · exact ⟨g, cap, e⟩
theorem slot_gs {g2 n2 c2 g n c N M : Nat} (h : (Value.slice (some ⟨g2, 0, none⟩) n2 c2).ownBlock = (Value.slice (some ⟨g, 0, none⟩) n c).ownBlock ∨ (Value.slice (some ⟨g2, 0, none⟩) n2 c2).ownBlock = some N) (hN : N = M) : g2 = g ∨ g2 = M := by
  rcases h with h | h
  · cases h; exact .inl rfl
  · cases h; exact .inr hN
theorem slot_new (w : World) (mb : Nat) (A : Nat → Prop) (room : Int) (r g n cap : Nat) (fv : Value) (tu : Nat → Tup) (nu : Nat → Int) (ah bk : Nat → Nat) (h : Mx w mb A room r g n cap fv []) (hL : Links w g n cap tu nu ah bk) (hn : n ≤ 1000) :
    Calls Try.prog 22 #[.pointer (some ⟨mb, 0, none⟩)] w fun e w' => e = .returned (.int .i64 n) ∧ (∃ g' cap' tu' nu' ah' bk', Mx w' mb (Nw A w) room r g' (n + 1) cap' fv [] ∧ Links w' g' (n + 1) cap' tu' nu' ah' bk' ∧ ∀ p, p < n → tu' p = tu p ∧ nu' p = nu p ∧ ah' p = ah p ∧ bk' p = bk p) ∧ Kp (fun k => k = mb ∨ k = g) w w' := by
  obtain ⟨o, c, rfl⟩ : ∃ o c, fv = .slice o 0 c := by
    rcases h.fre with ⟨_, ⟨e, _⟩ | ⟨b, c, _, e, _⟩⟩
    · exact ⟨_, _, e⟩
    · exact ⟨_, _, e⟩
  have c3 := h.c3
  have c2 := h.c2
  have fz := h.frz 2
  have hmb := h.lt
  have HM : Hid (Mx w mb A room r g n cap (.slice o 0 c) []) := h
  have hmg := h.n2
  obtain ⟨xs, hx1, hx2⟩ := hL
  have hlg := (hx1.lt g rfl).2
  have HX1 : Hid (w.ownsRow 0 56 12 (.slice (some ⟨g, 0, none⟩) n cap) n xs) := hx1
  have HX2 : Hid (LX xs n tu nu ah bk) := hx2
  clear h hx1 hx2
  have q1 : ((n + 1 : Nat) : Int) - 1 = (n : Int) := by omega
  go_enter Try.func22, Try.ntmps22
  go_wp2_with (at_builtin; refine wpList_append_row rfl _ _ 50 56 (.agg Z12) 12 96 Try.underlying50 info56 rfl (by omega) rfl (.slice (some ⟨g, 0, none⟩) n cap) n xs rfl (own_kp HX1.out (Kp.of_gn (fun _ => False) ((Gn.refl w).alloc _)) (fun _ _ e => e)) w.heap.size Z12.toList rfl rfl (zrow w) (by decide) (by omega) (by omega) ?_; intro v2 w2 h1 h2 h3; obtain ⟨g2, cap2, rfl⟩ := own_some h1 (by omega); have H1 : Hid (w2.ownsRow 0 56 12 (.slice (some ⟨g2, 0, none⟩) (n + 1) cap2) (n + 1) (xs ++ Z12.toList)) := h1; have HK : Hid (Kp (fun k => k = g) w w2) := (Kp.of_gn (fun k => k = g) ((Gn.refl w).alloc _)).trans (Kp.of_gb h2 (fun k e => by (cases e); rfl)); have hg2 : g2 = g ∨ g2 = w.heap.size + 1 := slot_gs h3 (size_alloc w _); have c2' := HK.out.cell c2 hmg; have fz' : w2.frozen? ⟨mb, 2, none⟩ = false := (World.frozen?_of_block (HK.out.block mb hmb hmg)).trans fz; clear h1 h2 h3 c2 fz)
  go_ret
  have h := HM.out
  have hne : mb ≠ g2 := by omega
  have hrl := h.rlt
  have hn3 := h.n3
  have hf3 : ∀ k, (Value.slice o 0 c).ownBlock = some k → k < w.heap.size := fun k e => (h.fre.lt k e).2
  have hk2 : Kp (fun k => k = mb ∨ k = g) w (w2.setCell ⟨mb, 2, none⟩ (.slice (some ⟨g2, 0, none⟩) (n + 1) cap2)) := (HK.out.mono (fun k _ e => .inr e)).set mb _ _ (.inl rfl)
  refine ⟨rfl, ⟨g2, cap2, fun p => if p < n then tu p else T0, fun p => if p < n then nu p else 0, fun p => if p < n then ah p else 0, fun p => if p < n then bk p else 0, ?_, ?_, fun p hp => by simp [hp]⟩, hk2⟩
  · refine ((h.kept HK.out hmg (fun k e => fun e2 => h.f3 (e2 ▸ e))).mono (fun k e => .inl e)).set2 hne ?_ ?_ ?_
    · omega
    · intro e
      have := hf3 _ e
      rcases hg2 with rfl | rfl
      · exact h.f3 e
      · omega
    · rcases hg2 with rfl | rfl
      · exact .inl h.a3
      · exact .inr (by omega)
  · refine ⟨xs ++ Z12.toList, own_kp H1.out ((Kp.refl (fun k => k = mb) w2).set mb _ _ rfl) (fun k e => by cases e; exact fun e2 => hne e2.symm), fun p hp => ?_⟩
    have hxl : xs.length = n * 12 := HX1.out.1
    by_cases hpn : p < n
    · obtain ⟨a1, a2, a3, a4⟩ := HX2.out p hpn
      simp only [if_pos hpn]
      refine ⟨fun j hj => by rw [List.getElem?_append_left (by omega)]; exact a1 j hj, by rw [List.getElem?_append_left (by omega)]; exact a2, by rw [List.getElem?_append_left (by omega)]; exact a3, by rw [List.getElem?_append_left (by omega)]; exact a4⟩
    · obtain rfl : p = n := by omega
      simp only [if_neg hpn]
      refine ⟨fun j hj => ?_, ?_, ?_, ?_⟩
      · rw [List.getElem?_append_right (by omega), hxl, Nat.add_sub_cancel_left]
        match j, hj with
        | 0, _ => rfl
        | 1, _ => rfl
        | 2, _ => rfl
        | 3, _ => rfl
        | 4, _ => rfl
        | 5, _ => rfl
        | 6, _ => rfl
        | 7, _ => rfl
        | 8, _ => rfl
        | k + 9, h => omega
      · rw [List.getElem?_append_right (by omega), hxl, Nat.add_sub_cancel_left]; rfl
      · rw [List.getElem?_append_right (by omega), hxl, Nat.add_sub_cancel_left]; rfl
      · rw [List.getElem?_append_right (by omega), hxl, Nat.add_sub_cancel_left]; rfl
end Go.Proofs.Ytdfhcjhhjjbpoaa
