/- Cut, whole; slot, whole; a memory under a frame. -/
import Derived.Test.YtdfhcjhhjjbpoaaD52
import Derived.Deep.MidRow
namespace Go.Proofs.Ytdfhcjhhjjbpoaa
open Go.RowKit

theorem Mem.kept {w w' : World} {mb : Nat} {A S : Nat → Prop} {room : Int} {es : List Ent} {K : Nat} (h : Mem w mb A room es K) (hk : Kp S w w') (hs : ∀ k, A k → ¬ S k) : Mem w' mb A room es K := by
  obtain ⟨r, g, n, cap, fv, fr, tu, nu, ah, bk, hM, hL, hP, hI, hn⟩ := h
  exact ⟨r, g, n, cap, fv, fr, tu, nu, ah, bk, hM.kept hk (hs _ hM.a1) (fun k e => hs _ (hM.a4 k e)), hL.kept hk (hs _ hM.a3), hP.kept hk (hs _ hM.a2), hI, hn⟩
theorem Mem.grown {w w' : World} {mb : Nat} {A : Nat → Prop} {room : Int} {es : List Ent} {K : Nat} (h : Mem w mb A room es K) (hg : Gn w w') : Mem w' mb A room es K := h.kept (Kp.of_gn (fun _ => False) hg) (fun _ _ e => e)
theorem Mem.bound {w : World} {mb : Nat} {A : Nat → Prop} {room : Int} {es : List Ent} {K : Nat} (h : Mem w mb A room es K) : Mem w mb (fun k => A k ∧ k < w.heap.size) room es K := by
  obtain ⟨r, g, n, cap, fv, fr, tu, nu, ah, bk, hM, r2⟩ := h
  have hl := r2.1.lt
  exact ⟨r, g, n, cap, fv, fr, tu, nu, ah, bk, { hM with a1 := ⟨hM.a1, hM.lt⟩, a2 := ⟨hM.a2, hM.rlt⟩, a3 := ⟨hM.a3, hl⟩, a4 := fun k e => ⟨hM.a4 k e, (hM.fre.lt k e).2⟩ }, r2⟩
theorem Mem.mono {w : World} {mb : Nat} {A A' : Nat → Prop} {room : Int} {es : List Ent} {K K' : Nat} (h : Mem w mb A room es K) (hA : ∀ k, k < w.heap.size → A k → A' k) (hK : K ≤ K') : Mem w mb A' room es K' := by
  obtain ⟨r, g, n, cap, fv, fr, tu, nu, ah, bk, hM, hL, hP, hI, hn⟩ := h.bound
  exact ⟨r, g, n, cap, fv, fr, tu, nu, ah, bk, hM.mono (fun k e => hA k e.2 e.1), hL, hP, hI, by omega⟩
theorem Mem.len {w : World} {mb : Nat} {A : Nat → Prop} {room : Int} {es : List Ent} {K : Nat} (h : Mem w mb A room es K) : es.length < K := by
  obtain ⟨r, g, n, cap, fv, fr, tu, nu, ah, bk, hM, hL, hP, hI, hn⟩ := h
  have := hI.sz
  omega
/-- A's blocks, and those that are new since w. -/
def Nb (A : Nat → Prop) (w w' : World) : Nat → Prop := fun k => A k ∨ (w.heap.size ≤ k ∧ k < w'.heap.size)
def Nd (A : Nat → Prop) (lo hi : Nat) : Nat → Prop := fun k => A k ∨ (lo ≤ k ∧ k < hi)
theorem cut_any (w : World) (mb : Nat) (A : Nat → Prop) (room : Int) (es : List Ent) (K : Nat) (h : Mem w mb A room es K) (hK : K ≤ 1000) (t : Tup) (ht : t.ok) :
    Calls Try.prog 12 #[.pointer (some ⟨mb, 0, none⟩), t.val] w fun e w' => e = .returned (.bool (findE t es).isSome) ∧ Mem w' mb (Nb A w w') room (cutE t es) K ∧ Kp A w w' := by
  rcases hx : findE t es with _ | x
  · refine Calls.mono (cut_none w mb A room es K h t ht hx) ?_
    rintro e w' ⟨h1, h2⟩
    rw [findE_none hx]
    exact ⟨h1, (h.grown h2).mono (fun k _ e => .inl e) (Nat.le_refl _), Kp.of_gn A h2⟩
  · refine Calls.mono (cut_some w mb A room es K h hK t ht x hx) ?_
    rintro e w' ⟨h1, h2, h3⟩
    exact ⟨h1, h2.mono (fun k hk e => e.elim .inl (fun e => .inr ⟨e, hk⟩)) (Nat.le_refl _), h3⟩
theorem slot_any (w : World) (mb : Nat) (A : Nat → Prop) (room : Int) (r g n cap : Nat) (fv : Value) (fr : List Nat) (tu : Nat → Tup) (nu : Nat → Int) (ah bk : Nat → Nat) (h : Mx w mb A room r g n cap fv fr) (hL : Links w g n cap tu nu ah bk) (hn : n ≤ 1000) (hfr : fr.length ≤ 1000) (hlt : ∀ p ∈ fr, p < n) :
    Calls Try.prog 22 #[.pointer (some ⟨mb, 0, none⟩)] w fun e w' => ∃ i g' n' cap' fv' fr' tu' nu' ah' bk', e = .returned (.int .i64 (i : Nat)) ∧ Mx w' mb (Nb A w w') room r g' n' cap' fv' fr' ∧ Links w' g' n' cap' tu' nu' ah' bk' ∧ (∀ p, p < n → tu' p = tu p ∧ nu' p = nu p ∧ ah' p = ah p ∧ bk' p = bk p) ∧
      i < n' ∧ ((fr = fr' ++ [i] ∧ n' = n) ∨ (fr = [] ∧ fr' = [] ∧ i = n ∧ n' = n + 1)) ∧ Kp (fun k => k = mb ∨ k = g) w w' := by
  rcases List.eq_nil_or_concat fr with rfl | ⟨fr', i, rfl⟩
  · refine Calls.mono (slot_new w mb A room r g n cap fv tu nu ah bk h hL hn) ?_
    rintro e w' ⟨h1, ⟨g', cap', tu', nu', ah', bk', h2, h3, h4⟩, h5⟩
    have hl := h3.lt
    exact ⟨n, g', n + 1, cap', fv, [], tu', nu', ah', bk', h1, { h2 with a1 := .inl h.a1, a2 := .inl h.a2, a3 := (h2.a3.elim .inl (fun e => .inr ⟨e, hl⟩)), a4 := fun k e => .inl (h.a4 k e) }, h3, h4, by omega, .inr ⟨rfl, rfl, rfl, rfl⟩, h5⟩
  · rw [List.concat_eq_append] at h hfr hlt ⊢
    refine Calls.mono (slot_one w mb A room r g n cap fv fr' i h (by simp at hfr; omega)) ?_
    rintro e w' ⟨h1, ⟨fv', h2⟩, h3⟩
    exact ⟨i, g, n, cap, fv', fr', tu, nu, ah, bk, h1, h2.mono (fun k e => .inl e), hL.kept h3 (fun e => h.n2 e.symm), fun p _ => ⟨rfl, rfl, rfl, rfl⟩, hlt i (by simp), .inl ⟨rfl, rfl⟩, h3.mono (fun k _ e => .inl e)⟩
theorem Inv.len_fr {n : Nat} {tu : Nat → Tup} {nu : Nat → Int} {ah bk : Nat → Nat} {es : List Ent} {fr : List Nat} (h : Inv n tu nu ah bk es fr) : fr.length < n := by
  have := h.sz
  omega
theorem own_setCells {g n cap : Nat} : ∀ (vs : List Value) (o : Nat) (w : World) (xs : List Value), w.ownsRow 0 56 12 (.slice (some ⟨g, 0, none⟩) n cap) n xs → o + vs.length ≤ xs.length →
    ∃ xs', (w.setCells g o vs).ownsRow 0 56 12 (.slice (some ⟨g, 0, none⟩) n cap) n xs' ∧ w.grownBy (w.setCells g o vs) (some g) ∧ ∀ j, xs'[j]? = if o ≤ j ∧ j < o + vs.length then vs[j - o]? else xs[j]?
  | [], o, w, xs, h, _ => ⟨xs, h, gb_refl _ _, fun j => by rw [if_neg (fun h => by (simp only [List.length_nil] at h); omega)]⟩
  | v :: vs, o, w, xs, h, hl => by
    obtain ⟨h1, h2⟩ := h.stored o v
    simp only [List.length_cons] at hl
    obtain ⟨xs', h3, h4, h5⟩ := own_setCells vs (o + 1) _ (xs.set o v) h1 (by simp; omega)
    refine ⟨xs', h3, ⟨h4.os.trans h2.os, h4.tape.trans h2.tape, h4.output.trans h2.output, Nat.le_trans h2.size h4.size, fun k hk hne => (h4.block k (Nat.lt_of_lt_of_le hk h2.size) hne).trans (h2.block k hk hne)⟩, fun j => ?_⟩
    rw [h5 j]
    simp only [List.length_cons]
    by_cases e : j = o
    · subst e
      rw [if_neg (by omega), if_pos (by omega), List.getElem?_set_self (by omega)]
      simp
    · rw [List.getElem?_set_ne (fun e2 => e e2.symm)]
      by_cases e3 : o + 1 ≤ j ∧ j < o + 1 + vs.length
      · rw [if_pos e3, if_pos (by omega)]
        have : j - o = (j - (o + 1)) + 1 := by omega
        rw [this, List.getElem?_cons_succ]
      · rw [if_neg e3, if_neg (by omega)]
def lcs (t : Tup) (x : Int) : Array Value := #[.int .i64 t.p, .bool t.a, .int .u64 t.b, .int .u64 t.c, .bool t.d, .int .u64 t.e, .int .u64 t.f, .int .i64 t.s, .int .i64 t.t, .int .i64 x, .int .i64 0, .int .i64 0]
theorem Links.set_link {w : World} {g n cap : Nat} {tu : Nat → Tup} {nu : Nat → Int} {ah bk : Nat → Nat} (h : Links w g n cap tu nu ah bk) {i : Nat} (hi : i < n) (t : Tup) (x : Int) :
    Links (w.setCells g (i * 12) (lcs t x).toList) g n cap (fun p => if p = i then t else tu p) (fun p => if p = i then x else nu p) (upd ah i 0) (upd bk i 0) ∧ w.grownBy (w.setCells g (i * 12) (lcs t x).toList) (some g) := by
  obtain ⟨xs, h1, h2⟩ := h
  have hl := h1.1
  have hll : (lcs t x).toList.length = 12 := rfl
  obtain ⟨xs', h3, h4, h5⟩ := own_setCells (lcs t x).toList (i * 12) w xs h1 (by omega)
  refine ⟨⟨xs', h3, fun p hp => ?_⟩, h4⟩
  by_cases e : p = i
  · subst e
    simp only [if_true, upd_same]
    refine ⟨fun j hj => ?_, ?_, ?_, ?_⟩
    · rw [h5, if_pos (by omega), Nat.add_sub_cancel_left]
      match j, hj with
      | 0, _ => rfl
      | 1, _ => rfl
      | 2, _ => rfl
      | 3, _ => rfl
      | 4, _ => rfl
      | 5, _ => rfl
      | 6, _ => rfl
      | 7, _ => rfl
      | 8, _ => rfl
      | k + 9, h => omega
    · rw [h5, if_pos (by omega), Nat.add_sub_cancel_left]; rfl
    · rw [h5, if_pos (by omega), Nat.add_sub_cancel_left]; rfl
    · rw [h5, if_pos (by omega), Nat.add_sub_cancel_left]; rfl
  · obtain ⟨a1, a2, a3, a4⟩ := h2 p hp
    simp only [if_neg e, upd_other e]
    refine ⟨fun j hj => ?_, ?_, ?_, ?_⟩
    · rw [h5, if_neg (by omega)]; exact a1 j hj
    · rw [h5, if_neg (by omega)]; exact a2
    · rw [h5, if_neg (by omega)]; exact a3
    · rw [h5, if_neg (by omega)]; exact a4
theorem wpList_store_link {w : World} {ops : Array Oper} {rest : List Oper} {o : Oper} {a : Act} {Q : Exit → Act → World → Prop} (hgd : o.guard = none) (p v : Operand) (ho : o.op = .store 56 p v) {g n cap : Nat} {tu : Nat → Tup} {nu : Nat → Int} {ah bk : Nat → Nat} {i : Nat} (t : Tup) (x : Int)
    (hp : a.eval p = .pointer (some ⟨g, i * 12, none⟩)) (hv : a.eval v = .agg (lcs t x)) (h : Links w g n cap tu nu ah bk) (hi : i < n)
    (hK : ∀ w', Links w' g n cap (fun p => if p = i then t else tu p) (fun p => if p = i then x else nu p) (upd ah i 0) (upd bk i 0) → w.grownBy w' (some g) → wpList Try.prog ops Q rest (a.put o.dst undef) w') : wpList Try.prog ops Q (o :: rest) a w := by
  obtain ⟨h1, h2⟩ := h.set_link hi t x
  refine wpList_store_mid hgd 56 p v ho g (i * 12) (lcs t x) hp hv (fun j hj => ⟨?_, h.free _⟩) (by kernel_rfl) (by simp [lcs, Value.oneCell']) (hK _ h1 h2)
  obtain ⟨xs, h3, _⟩ := h
  have hj2 : j < 12 := hj
  rw [h3.cellAt _ (by omega)]
  have := h3.1
  rw [List.getElem?_eq_getElem (by omega)]
  rfl
/-- An entry laid ahead. -/
theorem Inv.put {n n3 : Nat} {tu tu3 : Nat → Tup} {nu nu3 : Nat → Int} {ah bk ah3 bk3 : Nat → Nat} {es : List Ent} {fr fr3 : List Nat} {i : Nat} (h : Inv n tu nu ah bk es fr) (t : Tup) (x : Int) (ht : t.ok) (hn : findE t es = none)
    (hE : ∀ p, p < n → tu3 p = tu p ∧ nu3 p = nu p ∧ ah3 p = ah p ∧ bk3 p = bk p) (hi : i < n3) (hc : (fr = fr3 ++ [i] ∧ n3 = n) ∨ (fr = [] ∧ fr3 = [] ∧ i = n ∧ n3 = n + 1)) :
    Inv n3 (fun p => if p = i then t else tu3 p) (fun p => if p = i then x else nu3 p) (upd (upd (upd ah3 i 0) i 0) (upd bk3 i 0 0) i) (upd (upd (upd bk3 i 0) i (upd bk3 i 0 0)) 0 i) (⟨t, x, i⟩ :: es) fr3 := by
  obtain ⟨h1, h2, h3, h4, h5, h6, h7⟩ := h
  have hnn : n ≤ n3 := by omega
  have h0n : 0 < n := by omega
  have hpl : ∀ p ∈ es.map (·.p), p < n := fun p hp => h4 p (List.mem_append_left _ hp)
  have h2' := List.nodup_cons.1 h2
  have hnd := List.nodup_append.1 h2'.2
  have hi0 : i ≠ 0 := by
    rcases hc with ⟨rfl, _⟩ | ⟨_, _, rfl, _⟩
    · rintro rfl; exact h2'.1 (by simp)
    · omega
  have hie : i ∉ es.map (·.p) := by
    rcases hc with ⟨rfl, _⟩ | ⟨_, _, rfl, _⟩
    · intro hh; exact hnd.2.2 i hh i (by simp) rfl
    · intro hh; have := hpl _ hh; omega
  have hnp : (0 :: es.map (·.p)).Nodup := List.nodup_cons.2 ⟨fun hh => h2'.1 (List.mem_append_left _ hh), hnd.1⟩
  have hr : chain (upd bk3 i 0) (upd ah3 i 0) 0 (es.map (·.p)) 0 := by
    refine chain_congr h1 (fun q hq => ?_) (fun q hq => ?_) ?_
    · have hqn : q < n := by
        rcases List.mem_cons.1 hq with rfl | hq
        · exact h0n
        · exact hpl q hq
      have hqi : q ≠ i := by
        rintro rfl
        rcases List.mem_cons.1 hq with e | hq
        · exact hi0 e
        · exact hie hq
      rw [upd_other hqi]; exact (hE q hqn).2.2.2
    · have hqi : q ≠ i := by rintro rfl; exact hie hq
      rw [upd_other hqi]; exact (hE q (hpl q hq)).2.2.1
    · rw [upd_other (fun e => hi0 e.symm)]; exact (hE 0 h0n).2.2.1
  refine ⟨chain_first hr hi0 hie hnp, ?_, ?_, ?_, ?_, ?_, ?_⟩
  · show (0 :: (i :: es.map (·.p) ++ fr3)).Nodup
    rcases hc with ⟨rfl, _⟩ | ⟨rfl, rfl, rfl, _⟩
    · refine List.Perm.nodup_iff (List.Perm.cons 0 ?_) |>.2 h2
      rw [← List.append_assoc]
      exact (List.perm_append_singleton i _).symm
    · simp only [List.append_nil] at h2 h2' ⊢
      refine List.nodup_cons.2 ⟨?_, List.nodup_cons.2 ⟨hie, h2'.2⟩⟩
      intro hh
      rcases List.mem_cons.1 hh with e | e
      · exact hi0 e.symm
      · exact h2'.1 e
  · show (t :: es.map (·.t)).Nodup
    refine List.nodup_cons.2 ⟨fun hh => ?_, h3⟩
    obtain ⟨y, hy, e⟩ := List.mem_map.1 hh
    simp only [findE, List.find?_eq_none, decide_eq_true_eq] at hn
    exact hn y hy e
  · intro p hp
    have hp2 : p = i ∨ p ∈ es.map (·.p) ∨ p ∈ fr3 := by simpa [or_assoc] using hp
    rcases hp2 with rfl | hp2 | hp2
    · exact hi
    · have := hpl p hp2; omega
    · rcases hc with ⟨rfl, _⟩ | ⟨rfl, rfl, _⟩
      · have := h4 p (List.mem_append_right _ (List.mem_append_left _ hp2)); omega
      · simp at hp2
  · intro e he
    rcases List.mem_cons.1 he with rfl | he
    · simp
    · have hm : e.p ∈ es.map (·.p) := List.mem_map.2 ⟨e, he, rfl⟩
      have hne : e.p ≠ i := fun hh => hie (hh ▸ hm)
      simp only [if_neg hne]
      have := hE e.p (hpl _ hm)
      rw [this.1, this.2.1]
      exact h5 e he
  · intro e he
    rcases List.mem_cons.1 he with rfl | he
    · exact ht
    · exact h6 e he
  · rcases hc with ⟨rfl, rfl⟩ | ⟨rfl, rfl, rfl, rfl⟩
    · simp only [List.length_append, List.length_cons, List.length_nil] at h7 ⊢; omega
    · simp only [List.length_cons, List.length_nil] at h7 ⊢; omega
theorem mp_put {w : World} {r c i : Nat} {es : List Ent} {t : Tup} {x : Int} (h : Mp w r (fun u => if u = t then some i else (findE u es).map (·.p)) c) : Mp w r (fun u => (findE u (⟨t, x, i⟩ :: es)).map (·.p)) c := by
  have e : (fun u => if u = t then some i else (findE u es).map (·.p)) = fun u => (findE u (⟨t, x, i⟩ :: es)).map (·.p) := by
    funext u
    by_cases hu : u = t
    · subst hu; simp [findE]
    · rw [if_neg hu]
      simp [findE, List.find?_cons, Ne.symm hu]
  rw [← e]; exact h
theorem Mp.raw {w : World} {b c : Nat} {f : Tup → Option Nat} (h : Mp w b f c) : ∃ es cl, w.heap[b]? = some (.map es cl) ∧ es.size = c := by
  obtain ⟨n, D, ⟨es, cl, h1, _, _, h2⟩, _, h3, _⟩ := h
  refine ⟨es, cl, h1, ?_⟩
  rw [← h3, h2]
  simp [Maps.size, length_sorted]
end Go.Proofs.Ytdfhcjhhjjbpoaa
