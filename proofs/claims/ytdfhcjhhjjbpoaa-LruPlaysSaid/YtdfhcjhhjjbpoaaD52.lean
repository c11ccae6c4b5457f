/- Cut of one that is there. -/
import Derived.Test.YtdfhcjhhjjbpoaaC52
import Derived.StillTailTactics
namespace Go.Proofs.Ytdfhcjhhjjbpoaa
open Go.RowKit

theorem one_int (x : Int) : ∀ u ∈ [Value.int .i64 x], u.oneCell' = true := by
  intro u hu
  obtain rfl : u = Value.int .i64 x := by simpa using hu
  rfl
theorem zrow1 (w : World) (x : Int) (k : Nat) (hk : k < 1) : (w.alloc (.cells #[.int .i64 x] 3)).cell? ⟨w.heap.size, k, none⟩ = [Value.int .i64 x][k]? := by
  obtain rfl : k = 0 := by omega
  unfold World.cell?
  rw [heap_alloc_new]
  rfl
theorem Mx.app {w w3 : World} {mb : Nat} {A : Nat → Prop} {room : Int} {r g n cap : Nat} {fv v3 : Value} {fr : List Nat} {i : Nat} (h : Mx w mb A room r g n cap fv fr) (hg : w.grownBy w3 fv.ownBlock) (hgl : g < w.heap.size)
    (ho : w3.ownsRow 0 3 1 v3 (fr.length + 1) (nats fr ++ [.int .i64 (i : Int)])) (hb : v3.ownBlock = fv.ownBlock ∨ v3.ownBlock = some w.heap.size) : Mx (w3.setCell ⟨mb, 3, none⟩ v3) mb (Nw A w) room r g n cap v3 (fr ++ [i]) := by
  have hml := h.lt
  have hrl := h.rlt
  have f1 : v3.ownBlock ≠ some mb := by
    rcases hb with e | e
    · rw [e]; exact h.f1
    · rw [e]; intro e2; cases e2; omega
  have hg2 : w3.grownBy (w3.setCell ⟨mb, 3, none⟩ v3) (some mb) := gb_set (gb_refl _ _) _ _
  have hs := hg.size
  have hs2 := hg2.size
  refine { h with blk := heap_setCell_same w3 mb 3 _ 53 v3 ((hg.block mb hml (fun e => h.f1 e.symm)).trans h.blk), fre := ?_, rlt := by omega, f1 := f1, f2 := ?_, f3 := ?_, a1 := .inl h.a1, a2 := .inl h.a2, a3 := .inl h.a3, a4 := fun k e => ?_ }
  · have e1 : (fr ++ [i]).length = fr.length + 1 := by simp
    have e2 : nats (fr ++ [i]) = nats fr ++ [.int .i64 (i : Int)] := by simp [nats]
    rw [e1, e2]
    exact ho.kept hg2 (.inr f1)
  · rcases hb with e | e
    · rw [e]; exact h.f2
    · rw [e]; intro e2; cases e2; omega
  · rcases hb with e | e
    · rw [e]; exact h.f3
    · rw [e]; intro e2; cases e2; omega
  · rcases hb with e2 | e2
    · exact .inl (h.a4 k (e2 ▸ e))
    · rw [e2] at e; cases e; exact .inr (Nat.le_refl _)
theorem mp_cut {w : World} {r c : Nat} {es : List Ent} {t : Tup} (h : Mp w r (fun u => if u = t then none else (findE u es).map (·.p)) c) : Mp w r (fun u => (findE u (cutE t es)).map (·.p)) c := by
  have e : (fun u => if u = t then none else (findE u es).map (·.p)) = fun u => (findE u (cutE t es)).map (·.p) := by
    funext u
    by_cases hu : u = t
    · subst hu; rw [findE_cut_same]; simp
    · rw [if_neg hu, findE_cut_other hu]
  rw [← e]; exact h
theorem cut_some (w : World) (mb : Nat) (A : Nat → Prop) (room : Int) (es : List Ent) (K : Nat) (h : Mem w mb A room es K) (hK : K ≤ 1000) (t : Tup) (ht : t.ok) (x : Ent) (hx : findE t es = some x) :
    Calls Try.prog 12 #[.pointer (some ⟨mb, 0, none⟩), t.val] w fun e w' => e = .returned (.bool true) ∧ Mem w' mb (Nw A w) room (cutE t es) K ∧ Kp A w w' := by
  obtain ⟨r, g, n, cap, fv, fr, tu, nu, ah, bk, hM, hL, hP, hI, hn⟩ := h
  obtain ⟨xs, ys, rfl, rfl, hcut⟩ := findE_split hx hI.tn
  have hi : x.p < n := hI.lt _ (by simp)
  have ha : ah x.p < n := by
    have h1 := hI.ring
    rw [List.map_append, List.map_cons] at h1
    rcases List.mem_cons.1 (chain_ah (chain_split.1 h1).1) with e | e
    · omega
    · exact hI.lt _ (by rw [List.map_append]; exact List.mem_append_left _ (List.mem_append_left _ e))
  have hb : bk x.p < n := by
    have h1 := hI.ring
    rw [List.map_append, List.map_cons] at h1
    rcases List.mem_append.1 (chain_bk (chain_split.1 h1).2) with e | e
    · exact hI.lt _ (by rw [List.map_append, List.map_cons]; exact List.mem_append_left _ (List.mem_append_right _ (List.mem_cons_of_mem _ e)))
    · have : bk x.p = 0 := by simpa using e
      omega
  have hsz := hI.sz
  have hes : (xs ++ x :: ys).length = (xs ++ ys).length + 1 := by simp; omega
  have hcp := hL.cap_le
  have hgl := hL.lt
  have c1 := hM.c1
  have c2 := hM.c2
  have hmb := hM.lt
  have hne := hM.n2
  have hB := Bx.new w x.t
  have HG : Gn w (w.alloc (.cells x.t.cs 32)) := (Gn.refl w).alloc _
  have hlook : ∀ p : Gr, (Instr.lookup 49 (.map (some r)) x.t.val true).run Try.prog ((w.alloc (.cells x.t.cs 32)).gr p) = .ok (.tuple #[.int .i64 (x.p : Int), .bool true]) ((w.alloc (.cells x.t.cs 32)).gr p) := fun p => by
    have := (hP.kept0 (HG.gr p)).look x.t ht
    simpa [hx] using this
  have hf : ((fun u => (findE u (xs ++ x :: ys)).map (·.p)) x.t).isSome = true := by simp [hx]
  obtain ⟨b0, b1, b2, b3, b4, b5, b6, b7, b8⟩ := hB.cells
  have HB : Hid (Bx (w.alloc (.cells x.t.cs 32)) w.heap.size x.t) := hB
  have HM : Hid (Mx w mb A room r g n cap fv fr) := hM
  have HL : Hid (Links w g n cap tu nu ah bk) := hL
  have HP : Hid (Mp w r (fun u => (findE u (xs ++ x :: ys)).map (·.p)) (xs ++ x :: ys).length) := hP
  have HI : Hid (Inv n tu nu ah bk (xs ++ x :: ys) fr) := hI
  have HC : Hid (cutE x.t (xs ++ x :: ys) = xs ++ ys) := hcut
  have HF : Hid (((fun u => (findE u (xs ++ x :: ys)).map (·.p)) x.t).isSome = true) := hf
  clear hM hL hP hI hB hx hcut hf
  simp only [Tup.val, Tup.cs] at hlook b0 b1 b2 b3 b4 b5 b6 b7 b8 HG ⊢
  go_enter Try.func12, Try.ntmps12
  go_wp2_with (go_at_call 21; refine Calls.mono (given_any _ mb r 0 (gn_cell HG c1)) ?_; rintro _ _ ⟨rfl, rfl⟩)
  refine wp_region_gr (by kernel_rfl) (by kernel_rfl) ?_
  repeat (go_big_quiet_step (fail))
  refine wpQuiet_nil ?_
  rintro _ ⟨q1, rfl⟩
  clear b0 b1 b2 b3 b4 b5 b6 b7 b8 hlook c1
  go_wp2_with (first | (go_at_call 19; refine Calls.mono (out_any _ mb g n cap x.p tu nu ah bk (gn_cell (HG.gr _) c2) (Nat.lt_of_lt_of_le hmb (HG.gr _).size) (HL.out.kept (Kp.of_gn (fun _ => False) (HG.gr _)) (fun e => e)) hne hi ha hb (by omega)) ?_; rintro _ w2 ⟨⟨v2, rfl⟩, h2, h3⟩; have HL2 : Hid (Links w2 g n cap tu nu (upd ah (bk x.p) (ah x.p)) (upd bk (ah x.p) (bk x.p))) := h2; have HK2 : Hid (Kp (fun k => k = g) w w2) := (Kp.of_gn _ (HG.gr _)).trans h3; have HM2 : Hid (Mx w2 mb A room r g n cap fv fr) := HM.out.kept HK2.out hne (fun k e e2 => HM.out.f3 (e2 ▸ e)); have HB2 : Hid (Bx w2 w.heap.size x.t) := Bx.kept (HB.out.kept (Kp.of_gn (fun _ => False) ((Gn.refl _).gr _)) (fun e => e)) h3 (by intro e; omega); have c3 := HM2.out.c3; have hs2 := HK2.out.size; clear h2 h3 c2) | (at_builtin; refine wpList_append_row rfl _ _ 51 3 (.int .i64 0) 1 8 Try.underlying51 info3 rfl (by omega) rfl fv fr.length (nats fr) rfl (own_kp HM2.out.fre (Kp.of_gn (fun _ => False) ((Gn.refl w2).alloc _)) (fun _ _ e => e)) w2.heap.size [.int .i64 x.p] rfl rfl (zrow1 w2 x.p) (one_int _) (by omega) (by omega) ?_; intro v3 w3 h1 h2 h3; obtain ⟨g3, cap3, rfl⟩ := own_some h1 (by omega); have H1 : Hid (w3.ownsRow 0 3 1 (.slice (some ⟨g3, 0, none⟩) (fr.length + 1) cap3) (fr.length + 1) (nats fr ++ [.int .i64 x.p])) := h1; have H2 : Hid ((w2.alloc (.cells #[.int .i64 x.p] 3)).grownBy w3 fv.ownBlock) := h2; have H3 : Hid ((Value.slice (some ⟨g3, 0, none⟩) (fr.length + 1) cap3).ownBlock = fv.ownBlock ∨ (Value.slice (some ⟨g3, 0, none⟩) (fr.length + 1) cap3).ownBlock = some (w2.alloc (.cells #[.int .i64 x.p] 3)).heap.size) := h3; have HK3 : Hid (Kp (fun k => fv.ownBlock = some k) w2 w3) := (Kp.of_gn _ ((Gn.refl w2).alloc _)).trans (Kp.of_gb h2 (fun k e => e)); have c3 := HK3.out.cell c3 (fun e => HM.out.f1 e); have fz3 : w3.frozen? ⟨mb, 3, none⟩ = false := (World.frozen?_of_block (HK3.out.block mb HM2.out.lt (fun e => HM.out.f1 e))).trans (HM2.out.frz 3); clear h1 h2 h3))
  have hs3 := HK3.out.size
  have hsa := size_alloc w2 (.cells #[.int .i64 x.p] 3)
  have HM4 : Hid (Mx (w3.setCell ⟨mb, 3, none⟩ (.slice (some ⟨g3, 0, none⟩) (fr.length + 1) cap3)) mb (Nw A w) room r g n cap (.slice (some ⟨g3, 0, none⟩) (fr.length + 1) cap3) (fr ++ [x.p])) := ((HM2.out.kept (Kp.of_gn (fun _ => False) ((Gn.refl w2).alloc (.cells #[.int .i64 x.p] 3))) (fun e => e) (fun _ _ e => e)).app H2.out (by omega) H1.out H3.out).mono (fun k e => by
    rcases e with e | e
    · exact .inl e
    · exact .inr (by omega))
  have HK4 : Hid (Kp (fun k => k = mb ∨ fv.ownBlock = some k) w2 (w3.setCell ⟨mb, 3, none⟩ (.slice (some ⟨g3, 0, none⟩) (fr.length + 1) cap3))) := (HK3.out.mono (fun k _ e => .inr e)).set mb _ _ (.inl rfl)
  have HL4 : Hid (Links (w3.setCell ⟨mb, 3, none⟩ (.slice (some ⟨g3, 0, none⟩) (fr.length + 1) cap3)) g n cap tu nu (upd ah (bk x.p) (ah x.p)) (upd bk (ah x.p) (bk x.p))) := HL2.out.kept HK4.out (fun e => e.elim (fun e => hne e.symm) (fun e => HM.out.f3 e))
  have HP4 : Hid (Mp (w3.setCell ⟨mb, 3, none⟩ (.slice (some ⟨g3, 0, none⟩) (fr.length + 1) cap3)) r (fun u => (findE u (xs ++ x :: ys)).map (·.p)) (xs ++ x :: ys).length) := (HP.out.kept HK2.out HM.out.n3).kept HK4.out (fun e => e.elim (fun e => HM.out.n1 e.symm) (fun e => HM.out.f2 e))
  have HB4 : Hid (Bx (w3.setCell ⟨mb, 3, none⟩ (.slice (some ⟨g3, 0, none⟩) (fr.length + 1) cap3)) w.heap.size x.t) := HB2.out.kept HK4.out (fun e => e.elim (fun e => by omega) (fun e => by have := (HM.out.fre.lt _ e).2; omega))
  have HW4 : Hid (Kp A w (w3.setCell ⟨mb, 3, none⟩ (.slice (some ⟨g3, 0, none⟩) (fr.length + 1) cap3))) := (HK2.out.mono (fun k _ e => by (have := HM.out.a3); (subst e); exact this)).trans (HK4.out.mono (fun k _ e => e.elim (fun e => by (have := HM.out.a1); (subst e); exact this) (fun e => HM.out.a4 k e)))
  generalize w3.setCell ⟨mb, 3, none⟩ (.slice (some ⟨g3, 0, none⟩) (fr.length + 1) cap3) = W4 at *
  clear H1 H2 H3 HK3 HK4 c3 fz3 HM2 HK2 HB2 HL2 HP HL HB HG hs2 hs3 hsa hmb hgl
  have c1 := HM4.out.c1
  have hmb := HM4.out.lt
  have hNl := lt_of_block HB4.out
  obtain ⟨b0, b1, b2, b3, b4, b5, b6, b7, b8⟩ := HB4.out.cells
  go_still_tail 5, (by kernel_rfl)
  change wpList _ _ _ _ _ W4.drew
  refine wpList_map_del rfl _ _ rfl rfl (HP4.out.kept0 ((Gn.refl _).drew)) x.t ht rfl HF.out ?_
  intro w5 h1 h2
  have H5 : Hid (Mp w5 r (fun u => if u = x.t then none else (findE u (xs ++ x :: ys)).map (·.p)) ((xs ++ x :: ys).length - 1)) := h1
  have HK5 : Hid (Kp (fun k => k = r) W4 w5) := (Kp.of_gn _ ((Gn.refl _).drew)).trans (Kp.of_gb h2 (fun k e => by (cases e); rfl))
  clear h1 h2
  go_wp2
  go_ret
  refine ⟨rfl, ⟨r, g, n, cap, (.slice (some ⟨g3, 0, none⟩) (fr.length + 1) cap3), fr ++ [x.p], tu, nu, _, _, HM4.out.kept HK5.out HM4.out.n1 (fun k e e2 => HM4.out.f2 (e2 ▸ e)), HL4.out.kept HK5.out (fun e => HM4.out.n3 e.symm), ?_, ?_, hn⟩, HW4.out.trans (HK5.out.mono (fun k _ e => by (have := HM.out.a2); (subst e); exact this))⟩
  · have h9 := mp_cut H5.out
    have e9 : (cutE x.t (xs ++ x :: ys)).length = (xs ++ x :: ys).length - 1 := by rw [HC.out, hes]; rfl
    rw [e9]
    exact h9
  · rw [HC.out]
    exact HI.out.cut
end Go.Proofs.Ytdfhcjhhjjbpoaa
