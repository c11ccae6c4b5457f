/- Both memories side by side: what each call does to the pair. -/
import Derived.Test.YtdfhcjhhjjbpoaaOS52
namespace Go.Proofs.Ytdfhcjhhjjbpoaa
open Go.RowKit

theorem hidIt {p : Prop} (h : p) : Hid p := h
theorem findR_prs (t : Tup) (es : List Ent) : findR t (prs es) = (findE t es).map fun e => (e.t, e.n) := by
  induction es with
  | nil => rfl
  | cons e es ih =>
    by_cases h : e.t = t
    · simp [findR, findE, prs, h]
    · simp only [findR, findE, prs, List.map_cons, List.find?_cons, h, decide_false] at ih ⊢
      exact ih
theorem hasR_prs (t : Tup) (es : List Ent) : hasR t (prs es) = (findE t es).isSome := by
  induction es with
  | nil => rfl
  | cons e es ih =>
    by_cases h : e.t = t
    · simp [hasR, findE, prs, h]
    · simp only [hasR, findE, prs, List.map_cons, List.any_cons, List.find?_cons, h, decide_false, Bool.false_or] at ih ⊢
      exact ih
theorem lastR_prs (es : List Ent) : lastR (prs es) = lastT es := by
  unfold lastR lastT prs
  rw [List.getLast?_map]
  cases es.getLast? <;> rfl
theorem putR_prs (room : Int) (L : List Ent) : putR room (prs L) = ((putE room L).1, (putE room L).2.1, prs (putE room L).2.2) := by
  unfold putR putE
  have e : (prs L).length = L.length := by simp [prs]
  rw [e, lastR_prs]
  by_cases h : (L.length : Int) ≤ room
  · rw [if_pos h, if_pos h]
  · rw [if_neg h, if_neg h, prs_cut]
theorem prs_put (t : Tup) (x : Int) (p : Nat) (es : List Ent) : (t, x) :: cutR t (prs es) = prs (⟨t, x, p⟩ :: cutE t es) := by
  rw [← prs_cut]; rfl
theorem Kp.bx {S : Nat → Prop} {w w' : World} {N : Nat} {t : Tup} (hk : Kp S w w') (hs : ¬ S N) (h : Bx w N t) : Bx w' N t := h.kept hk hs
theorem Bx.free {w : World} {N : Nat} {t : Tup} (h : Bx w N t) (j : Nat) : w.frozen? ⟨N, j, none⟩ = false := by
  unfold World.frozen?
  rw [show w.heap[N]? = _ from h]
  simp
theorem store_box_run {w : World} {M : Nat} {u : Tup} (h : Bx w M u) (t : Tup) : ∃ w3, (Instr.storeAt 32 (.pointer (some ⟨M, 0, none⟩)) (.agg t.cs)).run Try.prog w = .ok () w3 ∧ Bx w3 M t ∧ Kp (fun j => j = M) w w3 := by
  refine ⟨w.setCells M 0 t.cs.toList, run_storeAt_mid w M 0 32 t.cs (fun j hj => ⟨?_, h.free _⟩) (by kernel_rfl) (by simp [Tup.cs, Value.oneCell']), h.store t, Kp.of_gb (gb_setCells _ _ _) (fun k e => by cases e; rfl)⟩
  unfold World.cell?
  rw [show w.heap[M]? = _ from h]
  have : j < u.cs.size := hj
  simp [this]
theorem wp_store_box {op : Oper} {a : Act} {w : World} {K : Act → World → Prop} {Q : Exit → Act → World → Prop} {x y : Operand} (ho : op.op = .store 32 x y) {M : Nat} {u : Tup} (t : Tup) (hx : a.eval x = .pointer (some ⟨M, 0, none⟩)) (hy : a.eval y = .agg t.cs) (h : Bx w M u)
    (hK : ∀ w3, Bx w3 M t → Kp (fun j => j = M) w w3 → K (a.put op.dst undef) w3) : op.wp Try.prog a w K Q := by
  refine wp_store_mid 32 x y ho M 0 t.cs hx hy (fun j hj => ⟨?_, h.free _⟩) (by kernel_rfl) (by simp [Tup.cs, Value.oneCell']) (hK _ (h.store t) (Kp.of_gb (gb_setCells _ _ _) (fun k e => by cases e; rfl)))
  unfold World.cell?
  rw [show w.heap[M]? = _ from h]
  have : j < u.cs.size := hj
  simp [this]
def gE (t : Tup) (es : List Ent) : List Ent := match findE t es with
  | some x => x :: cutE t es
  | none => es
def optE : Option Ent → Int
  | some e => e.n
  | none => 0
theorem gE_len {t : Tup} {es : List Ent} (hn : (es.map (·.t)).Nodup) : (gE t es).length = es.length := by
  unfold gE
  rcases h : findE t es with _ | x
  · rfl
  · obtain ⟨xs, ys, rfl, _, h3⟩ := findE_split h hn
    simp only [h3]
    simp; omega
/-- The pair: the memory holds es, the document's rows; blocks of F are nobody's. -/
def Bo (w0 w : World) (mb xb n : Nat) (es : List Ent) (rows : List Rw) (K : Nat) (F : Nat → Prop) : Prop :=
  ∃ A, Mem w mb A n es K ∧ (∀ j, A j → w0.heap.size ≤ j ∧ j < w.heap.size) ∧ ¬ A xb ∧ w0.heap.size ≤ xb ∧ RM w xb (fun j => ¬ A j ∧ w0.heap.size ≤ j ∧ ¬ F j) n rows ∧ Gn w0 w ∧ es.length ≤ n ∧ ∀ j, F j → ¬ A j ∧ j < w.heap.size ∧ j ≠ xb
section
variable {w0 w : World} {mb xb n : Nat} {es es2 : List Ent} {rows : List Rw} {K : Nat} {F : Nat → Prop}
theorem Bo.gnw (h : Bo w0 w mb xb n es rows K F) : Gn w0 w := by
  obtain ⟨A, _, _, _, _, _, h, _⟩ := h
  exact h
theorem Bo.gn {w' : World} (h : Bo w0 w mb xb n es rows K F) (hg : Gn w w') : Bo w0 w' mb xb n es rows K (fun j => F j ∨ (w.heap.size ≤ j ∧ j < w'.heap.size)) := by
  obtain ⟨A, h1, h2, h3, h4, h5, h6, h7, h8⟩ := h
  have hs := hg.size
  have hx := h5.lt
  refine ⟨A, h1.grown hg, fun j e => ⟨(h2 j e).1, by have := (h2 j e).2; omega⟩, h3, h4, (h5.mono (fun j hj e => ⟨e.1, e.2.1, fun e2 => e2.elim e.2.2 (fun e2 => by omega)⟩)).gn hg, h6.trans hg, h7, fun j e => ?_⟩
  rcases e with e | e
  · exact ⟨(h8 j e).1, by have := (h8 j e).2.1; omega, (h8 j e).2.2⟩
  · exact ⟨fun e2 => by have := (h2 j e2).2; omega, e.2, by omega⟩
theorem Bo.sub {F' : Nat → Prop} (h : Bo w0 w mb xb n es rows K F) (hf : ∀ j, F' j → F j) : Bo w0 w mb xb n es rows K F' := by
  obtain ⟨A, h1, h2, h3, h4, h5, h6, h7, h8⟩ := h
  exact ⟨A, h1, h2, h3, h4, h5.mono (fun j _ e => ⟨e.1, e.2.1, fun e2 => e.2.2 (hf j e2)⟩), h6, h7, fun j e => h8 j (hf j e)⟩
theorem Bo.more {K' : Nat} (h : Bo w0 w mb xb n es rows K F) (hk : K ≤ K') : Bo w0 w mb xb n es rows K' F := by
  obtain ⟨A, h1, h2⟩ := h
  exact ⟨A, h1.mono (fun _ _ e => e) hk, h2⟩
theorem Bo.xlt (h : Bo w0 w mb xb n es rows K F) : w0.heap.size ≤ xb ∧ xb < w.heap.size := by
  obtain ⟨A, h1, h2, h3, h4, h5, h6, h7, h8⟩ := h
  exact ⟨h4, h5.lt⟩
theorem Bo.len (h : Bo w0 w mb xb n es rows K F) : es.length < K := by
  obtain ⟨A, h1, h2⟩ := h
  exact h1.len
theorem Bo.nodup (h : Bo w0 w mb xb n es rows K F) : (es.map (·.t)).Nodup := by
  obtain ⟨A, h1, h2⟩ := h
  exact h1.nodup
theorem Bo.le (h : Bo w0 w mb xb n es rows K F) : es.length ≤ n := by
  obtain ⟨A, h1, h2, h3, h4, h5, h6, h7, h8⟩ := h
  exact h7
theorem Bo.cells (h : Bo w0 w mb xb n es rows K F) : ∃ o c, w.cell? ⟨xb, 1, none⟩ = some (.slice o rows.length c) ∧ RR w 0 (.slice o rows.length c) rows := by
  obtain ⟨A, h1, h2, h3, h4, h5, h6, h7, h8⟩ := h
  obtain ⟨o, c, _, c1, hr⟩ := h5.cells
  exact ⟨o, c, c1, hr⟩
theorem Bo.ne (h : Bo w0 w mb xb n es rows K F) {j : Nat} (hj : F j) : ¬ j = xb := by
  obtain ⟨A, h1, h2, h3, h4, h5, h6, h7, h8⟩ := h
  exact (h8 j hj).2.2
/-- A store into nobody's block. -/
theorem Bo.kp {S : Nat → Prop} {w3 : World} (h : Bo w0 w mb xb n es rows K F) (hK : Kp S w w3) (hS : ∀ j, S j → F j ∧ w0.heap.size ≤ j) : Bo w0 w3 mb xb n es rows K F := by
  obtain ⟨A, h1, h2, h3, h4, h5, h6, h7, h8⟩ := h
  have hs := hK.size
  refine ⟨A, h1.kept hK (fun j e e2 => (h8 j (hS j e2).1).1 e), fun j e => ⟨(h2 j e).1, by have := (h2 j e).2; omega⟩, h3, h4, h5.kept hK (fun e => (h8 _ (hS _ e).1).2.2 rfl) (fun j _ e e2 => e.2.2 (hS j e2).1), ?_, h7, fun j e => ⟨(h8 j e).1, by have := (h8 j e).2.1; omega, (h8 j e).2.2⟩⟩
  exact ((Kp.of_gn (fun j => w0.heap.size ≤ j) h6).trans (hK.mono (fun j _ e => (hS j e).2))).to_gn (fun j e => e)
/-- The memory took a step. -/
theorem Bo.mem {w2 : World} {A : Nat → Prop} {K2 : Nat} (h1 : Mem w mb A n es K) (h2 : ∀ j, A j → w0.heap.size ≤ j ∧ j < w.heap.size) (h3 : ¬ A xb) (h4 : w0.heap.size ≤ xb) (h5 : RM w xb (fun j => ¬ A j ∧ w0.heap.size ≤ j ∧ ¬ F j) n rows) (h6 : Gn w0 w) (h8 : ∀ j, F j → ¬ A j ∧ j < w.heap.size ∧ j ≠ xb)
    (hM : Mem w2 mb (Nb A w w2) n es2 K2) (hK : Kp A w w2) (hl : es2.length ≤ n) : Bo w0 w2 mb xb n es2 rows K2 F ∧ Kp (fun j => w0.heap.size ≤ j ∧ ¬ F j) w w2 := by
  have hs := hK.size
  have hs0 := h6.size
  have hx := h5.lt
  have hK2 : Kp (fun j => w0.heap.size ≤ j ∧ ¬ F j) w w2 := hK.mono (fun j _ e => ⟨(h2 j e).1, fun e2 => (h8 j e2).1 e⟩)
  refine ⟨⟨Nb A w w2, hM, fun j e => ?_, fun e => ?_, h4, ?_, ?_, hl, fun j e => ⟨fun e2 => ?_, by have := (h8 j e).2.1; omega, (h8 j e).2.2⟩⟩, hK2⟩
  · rcases e with e | e
    · exact ⟨(h2 j e).1, by have := (h2 j e).2; omega⟩
    · exact ⟨by omega, e.2⟩
  · rcases e with e | e
    · exact h3 e
    · omega
  · have h9 : RM w xb (fun j => ¬ A j ∧ w0.heap.size ≤ j ∧ j < w.heap.size ∧ ¬ F j) n rows := h5.mono (fun j hj e => ⟨e.1, e.2.1, hj, e.2.2⟩)
    exact (h9.kept hK h3 (fun j _ e => e.1)).mono (fun j _ e => ⟨fun e2 => e2.elim e.1 (fun e3 => by omega), e.2.1, e.2.2.2⟩)
  · exact ((Kp.of_gn (fun j => w0.heap.size ≤ j) h6).trans (hK.mono (fun j _ e => (h2 j e).1))).to_gn (fun j e => e)
  · rcases e2 with e2 | e2
    · exact (h8 j e).1 e2
    · have := (h8 j e).2.1; omega
/-- The reference took a step. -/
theorem Bo.ref {w3 : World} {rows2 : List Rw} (h : Bo w0 w mb xb n es rows K F) (hR : RM w3 xb (fun k => w.heap.size ≤ k) n rows2) (hK : Kp (fun k => k = xb) w w3) : Bo w0 w3 mb xb n es rows2 K F := by
  obtain ⟨A, h1, h2, h3, h4, h5, h6, h7, h8⟩ := h
  have hs := hK.size
  have hs0 := h6.size
  refine ⟨A, h1.kept hK (fun k e e2 => h3 (e2 ▸ e)), fun j e => ⟨(h2 j e).1, by have := (h2 j e).2; omega⟩, h3, h4, hR.mono (fun j _ e => ⟨fun e2 => by have := (h2 j e2).2; omega, by omega, fun e2 => by have := (h8 j e2).2.1; omega⟩), ?_, h7, fun j e => ⟨(h8 j e).1, by have := (h8 j e).2.1; omega, (h8 j e).2.2⟩⟩
  exact ((Kp.of_gn (fun j => w0.heap.size ≤ j) h6).trans (hK.mono (fun j _ e => by omega))).to_gn (fun j e => e)
theorem bo_peek (h : Bo w0 w mb xb n es rows K F) (hK : K ≤ 900) (t : Tup) (ht : t.ok) :
    Calls Try.prog 10 #[.pointer (some ⟨mb, 0, none⟩), t.val] w fun e w' => e = .returned (.tuple #[.int .i64 (optE (findE t es)), .bool (findE t es).isSome]) ∧ Gn w w' := by
  obtain ⟨A, h1, _⟩ := h
  rcases hf : findE t es with _ | x
  · exact peek_none w mb A n es K h1 t ht hf
  · exact peek_some w mb A n es K h1 (by omega) t ht x hf
theorem bo_rpeek (h : Bo w0 w mb xb n es (prs es) K F) (hK : K ≤ 900) (t : Tup) :
    Calls Try.prog 11 #[.pointer (some ⟨xb, 0, none⟩), t.val] w fun e w' => e = .returned (.tuple #[.int .i64 (optE (findE t es)), .bool (findE t es).isSome]) ∧ Gn w w' := by
  have hl := h.len
  obtain ⟨A, h1, h2, h3, h4, h5, h6, h7, h8⟩ := h
  have hp : (prs es).length = es.length := by simp [prs]
  have := rpeek_any w xb _ n (prs es) h5 (by omega) t
  rw [findR_prs] at this
  rcases hf : findE t es with _ | x
  · rw [hf] at this; exact this
  · rw [hf] at this; exact this
theorem bo_cut (h : Bo w0 w mb xb n es rows K F) (hK : K ≤ 900) (t : Tup) (ht : t.ok) :
    Calls Try.prog 12 #[.pointer (some ⟨mb, 0, none⟩), t.val] w fun e w' => e = .returned (.bool (findE t es).isSome) ∧ Bo w0 w' mb xb n (cutE t es) rows K F ∧ Kp (fun j => w0.heap.size ≤ j ∧ ¬ F j) w w' := by
  obtain ⟨A, h1, h2, h3, h4, h5, h6, h7, h8⟩ := h
  refine Calls.mono (cut_any w mb A n es K h1 (by omega) t ht) ?_
  rintro e w' ⟨he, hM, hk⟩
  exact ⟨he, Bo.mem h1 h2 h3 h4 h5 h6 h8 hM hk (Nat.le_trans (cutE_length t es) h7)⟩
theorem bo_rcut (h : Bo w0 w mb xb n es2 (prs es) K F) (hl : es.length ≤ 900) (t : Tup) :
    Calls Try.prog 13 #[.pointer (some ⟨xb, 0, none⟩), t.val] w fun e w' => e = .returned (.bool (findE t es).isSome) ∧ Bo w0 w' mb xb n es2 (prs (cutE t es)) K F ∧ Kp (fun j => j = xb) w w' := by
  have h0 := h
  obtain ⟨A, h1, h2, h3, h4, h5, h6, h7, h8⟩ := h
  have hp : (prs es).length = es.length := by simp [prs]
  refine Calls.mono (rcut_any w xb _ n (prs es) h5 (by omega) t) ?_
  rintro e w' ⟨he, hR, hk⟩
  rw [hasR_prs] at he
  rw [← prs_cut] at hR
  exact ⟨he, h0.ref hR hk, hk⟩
/-- What Put leaves. -/
def pE (n : Nat) (t : Tup) (x : Int) (es : List Ent) (p : Nat) : Tup × Bool × List Ent := putE n (⟨t, x, p⟩ :: cutE t es)
theorem pE_1 (n : Nat) (t : Tup) (x : Int) (es : List Ent) (p q : Nat) : (pE n t x es p).1 = (pE n t x es q).1 ∧ (pE n t x es p).2.1 = (pE n t x es q).2.1 ∧ prs (pE n t x es p).2.2 = prs (pE n t x es q).2.2 := by
  have h1 := putR_prs n (⟨t, x, p⟩ :: cutE t es)
  have h2 := putR_prs n (⟨t, x, q⟩ :: cutE t es)
  rw [← prs_put] at h1 h2
  rw [h1] at h2
  injection h2 with a b
  injection b with b c
  exact ⟨a, b, c⟩
theorem bo_put (h : Bo w0 w mb xb n es rows K F) (hK : K ≤ 900) (t : Tup) (ht : t.ok) (x : Int) :
    Calls Try.prog 14 #[.pointer (some ⟨mb, 0, none⟩), t.val, .int .i64 x] w fun e w' => ∃ p, e = .returned (.tuple #[(pE n t x es 0).1.val, .bool (pE n t x es 0).2.1]) ∧ Bo w0 w' mb xb n (pE n t x es p).2.2 rows (K + 1) F ∧ Kp (fun j => w0.heap.size ≤ j ∧ ¬ F j) w w' := by
  have hn := h.nodup
  obtain ⟨A, h1, h2, h3, h4, h5, h6, h7, h8⟩ := h
  refine Calls.mono (put_any w mb A n es K h1 (fun j e => (h2 j e).2) hK t ht x) ?_
  rintro e w' ⟨p, he, hM, hk⟩
  have h9 := pE_1 n t x es p 0
  refine ⟨p, ?_, Bo.mem h1 h2 h3 h4 h5 h6 h8 hM hk (putE_len hn h7)⟩
  rw [← h9.1, ← h9.2.1]
  exact he
theorem bo_rput (h : Bo w0 w mb xb n es2 (prs es) K F) (hl : es.length ≤ 900) (t : Tup) (x : Int) :
    Calls Try.prog 15 #[.pointer (some ⟨xb, 0, none⟩), t.val, .int .i64 x] w fun e w' => e = .returned (.tuple #[(pE n t x es 0).1.val, .bool (pE n t x es 0).2.1]) ∧ Bo w0 w' mb xb n es2 (prs (pE n t x es 0).2.2) K F ∧ Kp (fun j => j = xb) w w' := by
  have h0 := h
  obtain ⟨A, h1, h2, h3, h4, h5, h6, h7, h8⟩ := h
  have hp : (prs es).length = es.length := by simp [prs]
  refine Calls.mono (rput_any w xb _ n (prs es) h5 (by omega) t x) ?_
  rintro e w' ⟨he, hR, hk⟩
  rw [prs_put t x 0, putR_prs] at he hR
  exact ⟨he, h0.ref hR hk, hk⟩
theorem gE_put {t : Tup} {es : List Ent} {x : Ent} (hn : (es.map (·.t)).Nodup) (hl : es.length ≤ n) (hf : findE t es = some x) : (putR n ((t, x.n) :: cutR t (prs es))).2.2 = prs (gE t es) := by
  have hx : x.t = t := by
    obtain ⟨_, _, _, h, _⟩ := findE_split hf hn
    exact h
  have hg : gE t es = x :: cutE t es := by unfold gE; rw [hf]
  have e : (t, x.n) :: cutR t (prs es) = prs (gE t es) := by
    rw [hg, ← prs_cut]
    simp [prs, hx]
  rw [e]
  unfold putR
  have hp : (prs (gE t es)).length = es.length := by rw [← gE_len (t := t) hn]; simp [prs]
  rw [if_pos (by omega)]
theorem bo_get (h : Bo w0 w mb xb n es rows K F) (hK : K ≤ 900) (t : Tup) (ht : t.ok) :
    Calls Try.prog 8 #[.pointer (some ⟨mb, 0, none⟩), t.val] w fun e w' => e = .returned (.tuple #[.int .i64 (optE (findE t es)), .bool (findE t es).isSome]) ∧ Bo w0 w' mb xb n (gE t es) rows K F ∧ Kp (fun j => w0.heap.size ≤ j ∧ ¬ F j) w w' := by
  have h0 := h
  have hn := h.nodup
  obtain ⟨A, h1, h2, h3, h4, h5, h6, h7, h8⟩ := h
  rcases hf : findE t es with _ | x
  · refine Calls.mono (get_none w mb A n es K h1 t ht hf) ?_
    rintro e w' ⟨he, hg⟩
    have hgE : gE t es = es := by unfold gE; rw [hf]
    rw [hgE]
    exact ⟨he, (h0.gn hg).sub (fun j e => .inl e), Kp.of_gn _ hg⟩
  · refine Calls.mono (get_some w mb A n es K h1 (by omega) t ht x hf) ?_
    rintro e w' ⟨he, hM, hk⟩
    have hgE : gE t es = x :: cutE t es := by unfold gE; rw [hf]
    have hlen : (x :: cutE t es).length ≤ n := by rw [← hgE, gE_len hn]; exact h7
    rw [hgE]
    exact ⟨he, Bo.mem h1 h2 h3 h4 h5 h6 h8 (hM.mono (fun j _ e => .inl e) (Nat.le_refl _)) hk hlen⟩
theorem bo_rget (h : Bo w0 w mb xb n es2 (prs es) K F) (hn : (es.map (·.t)).Nodup) (hl : es.length ≤ n) (hl9 : es.length ≤ 900) (t : Tup) :
    Calls Try.prog 9 #[.pointer (some ⟨xb, 0, none⟩), t.val] w fun e w' => e = .returned (.tuple #[.int .i64 (optE (findE t es)), .bool (findE t es).isSome]) ∧ Bo w0 w' mb xb n es2 (prs (gE t es)) K F ∧ Kp (fun j => j = xb) w w' := by
  have h0 := h
  obtain ⟨A, h1, h2, h3, h4, h5, h6, h7, h8⟩ := h
  have hp : (prs es).length = es.length := by simp [prs]
  have hfr := findR_prs t es
  rcases hf : findE t es with _ | x
  · rw [hf] at hfr
    refine Calls.mono (rget_none w xb _ n (prs es) h5 (by omega) t hfr) ?_
    rintro e w' ⟨he, hg⟩
    have hgE : gE t es = es := by unfold gE; rw [hf]
    rw [hgE]
    exact ⟨he, (h0.gn hg).sub (fun j e => .inl e), Kp.of_gn _ hg⟩
  · rw [hf] at hfr
    refine Calls.mono (rget_some w xb _ n (prs es) h5 (by omega) t _ hfr) ?_
    rintro e w' ⟨he, hR, hk⟩
    simp only at hR
    rw [gE_put hn hl hf] at hR
    exact ⟨he, h0.ref hR hk, hk⟩
theorem bo_len (h : Bo w0 w mb xb n es rows K F) :
    Calls Try.prog 16 #[.pointer (some ⟨mb, 0, none⟩)] w fun e w' => e = .returned (.int .i64 es.length) ∧ w = w' := by
  obtain ⟨A, h1, _⟩ := h
  exact (len_mem w mb A n es K h1).mono fun _ _ h => ⟨h.1, h.2.symm⟩
theorem bo_list (h : Bo w0 w mb xb n es rows K F) (hK : K ≤ 900) :
    Calls Try.prog 18 #[.pointer (some ⟨mb, 0, none⟩)] w fun e w' => ∃ v, e = .returned v ∧ TR w' w.heap.size v (es.map (·.t)) ∧ Gn w w' := by
  obtain ⟨A, h1, _⟩ := h
  exact list_any w mb A n es K h1 (by omega)
theorem bo_same {b : Nat} {v u : Value} (hv : TR w b v (es.map (·.t))) (hu : RR w 0 u (prs es)) (hl : es.length ≤ 900) :
    Calls Try.prog 17 #[v, u] w fun e w' => e = .returned (.bool true) ∧ Gn w w' := by
  have hp : (prs es).length = es.length := by simp [prs]
  refine same_yes w b v u (prs es) ?_ hu (by omega)
  have : (prs es).map (·.1) = es.map (·.t) := by simp [prs]
  rw [this]
  exact hv
end
end Go.Proofs.Ytdfhcjhhjjbpoaa
