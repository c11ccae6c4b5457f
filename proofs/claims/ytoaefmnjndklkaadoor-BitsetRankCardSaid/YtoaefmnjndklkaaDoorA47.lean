/- Plain: how the parts of two sets add up. A slice of words of 16 bits, opened. -/
import Derived.Test.YtoaefmnjndklkaaDoorW47
import Derived.Deep.Slices
import Derived.ChangeArms
import Derived.OpenShut
import Derived.WideShapes
namespace Go.Proofs.YtoaefmnjndklkaaDoor
open Go.ChangeShapes Go.WideShapes Go.RowKit Go.Deep

theorem cnt_sum (m n : Nat → Bool) : ∀ k, cnt m k + cnt n k = cnt (mb29 m n) k + cnt (mb30 m n) k ∧ cnt (mb31 m n) k + cnt (mb31 n m) k + cnt (mb30 m n) k = cnt (mb29 m n) k ∧ cnt (mb30 (mb31 m n) (mb31 n m)) k = 0
  | 0 => ⟨rfl, rfl, rfl⟩
  | k + 1 => by
    obtain ⟨h1, h2, h3⟩ := cnt_sum m n k
    simp only [cnt, mb29, mb30, mb31] at h1 h2 h3 ⊢
    by_cases hm : m k = true <;> by_cases hn : n k = true <;> simp [hm, hn] <;> omega
theorem ati_rank {m : Nat → Bool} {N p : Nat} (hp : m p = true) (hN : p < N) : ati (lst m N) (cnt m p) = p := by
  have e : lst m N = lu m p 0 ++ lu m (N - p) p := by
    unfold lst
    have : N = p + (N - p) := by omega
    rw [this, lu_add, Nat.zero_add]
    congr 2
    omega
  have hl : (lu m p 0).length = cnt m p := lst_len m p
  have h2 : lu m (N - p) p = p :: lu m (N - p - 1) (p + 1) := by
    have : N - p = (N - p - 1) + 1 := by omega
    rw [this, lu_succ, if_pos hp]
    rfl
  unfold ati
  rw [e, h2, List.getElem?_append_right (by omega), hl, Nat.sub_self]
  rfl
theorem nx_self {m : Nat → Bool} {N p : Nat} (hp : m p = true) (hN : p < N) : nx m N p = p := nx_found hp hN (Nat.le_refl _) (fun i h1 h2 => by omega)
theorem below_in {m : Nat → Bool} {N p : Nat} (h : p ≤ N) : below m N (p : Int) = cnt m p := by unfold below; congr 1; omega
theorem putM_same {m : Nat → Bool} {p : Nat} (h : m p = true) : putM m p = m := by
  funext j
  unfold putM
  by_cases e : j = p
  · subst e; rw [h]; rfl
  · rw [decide_eq_false e, Bool.or_false]
/-- The first k numbers of l, by n, put into an empty set. -/
def gm (n : Nat) (l : List Nat) : Nat → Nat → Bool
  | 0 => m0
  | k + 1 => putM (gm n l k) ((l[k]?).getD 0 % n)
def nl (l : List Nat) (k : Nat) : Nat := (l[k]?).getD 0
theorem gm_succ (n : Nat) (l : List Nat) (k : Nat) : gm n l (k + 1) = putM (gm n l k) (nl l k % n) := rfl
theorem gm_has (n : Nat) (l : List Nat) : ∀ {k i : Nat}, i < k → gm n l k (nl l i % n) = true
  | 0, i, h => by omega
  | k + 1, i, h => by
    rw [gm_succ]
    unfold putM
    by_cases e : i = k
    · subst e; simp
    · rw [gm_has n l (by omega : i < k)]; rfl

/-! ### a slice of uint16 -/
def U16 (w : World) (b off : Nat) (l : List Nat) : Prop := b < w.heap.size ∧ ∀ k, k < l.length → w.cell? ⟨b, off + k, none⟩ = some (.int .u16 (nl l k : Nat))
def UA (w : World) (v : Value) (l : List Nat) : Prop := (∃ o c, l = [] ∧ v = .slice o 0 c) ∨ ∃ b off cap, v = .slice (some ⟨b, off, none⟩) l.length cap ∧ U16 w b off l
theorem UA.shape {w : World} {v : Value} {l : List Nat} (h : UA w v l) : ∃ o c, v = .slice o l.length c := by
  rcases h with ⟨o, c, rfl, rfl⟩ | ⟨b, off, cap, rfl, _⟩ <;> exact ⟨_, _, rfl⟩
theorem UA.row {w : World} {v : Value} {l : List Nat} (h : UA w v l) (hp : 0 < l.length) : ∃ b off cap, v = .slice (some ⟨b, off, none⟩) l.length cap ∧ U16 w b off l := by
  rcases h with ⟨_, _, rfl, _⟩ | h
  · simp at hp
  · exact h
theorem UA.gn {w w' : World} {v : Value} {l : List Nat} (h : UA w v l) (hg : Gn w w') : UA w' v l := by
  rcases h with h | ⟨b, off, cap, rfl, hb, hc⟩
  · exact .inl h
  · exact .inr ⟨b, off, cap, rfl, Nat.lt_of_lt_of_le hb hg.size, fun k hk => gn_cell hg (hc k hk)⟩
theorem cells22 : Tryd.prog.cellsOf 22 = 1 := by kernel_rfl
theorem open_us {H : Type} {enc : TypeId × Value → H} {w : World} {b0 : Nat} {held : Bool} {r : Reach} {v : Value} {d : DataW H} {p : List MemPlace}
    (hv : Value.okWide Tryd.prog w r b0 23 v) (h : DataW.Trod enc Tryd.prog w 0 (fun _ => true) held 23 v d p) : ∃ xs : List Nat, UA w v xs ∧ ∀ x ∈ xs, x ≤ 65535 := by
  obtain ⟨o, len, cap, rfl⟩ := okWide_slice Tryd.underlying23 hv
  obtain ⟨fuel, hf⟩ := h
  rcases open_slice1 Tryd.underlying23 cells22 hf with ⟨h0, _⟩ | ⟨a, len', cap', m, n, V, D, Pl, hcs, _, hl, hm, hmm, _, hi⟩
  · simp [Value.cells] at h0
    obtain ⟨rfl, rfl, rfl⟩ := h0
    exact ⟨[], .inl ⟨_, _, rfl, rfl⟩, fun k hk => by simp at hk⟩
  · simp [Value.cells] at hcs
    obtain ⟨rfl, rfl, rfl⟩ := hcs
    simp only [if_true] at hmm
    subst hmm
    rcases Nat.eq_zero_or_pos len with rfl | hpos
    · exact ⟨[], .inl ⟨_, _, rfl, rfl⟩, fun k hk => by simp at hk⟩
    have each : ∀ i, i < len → ∃ q : Nat, w.cell? (a.add i) = some (.int .u16 (q : Nat)) ∧ q ≤ 65535 := fun i hil => by
      obtain ⟨hc, ht⟩ := hi i (by omega)
      obtain ⟨q, e, _, hw⟩ := DataW.trod_int Tryd.underlying22 ht
      injection e with e
      have := wf_u16 hw
      exact ⟨q.toNat, by rw [hc, e]; congr 2; omega, by omega⟩
    obtain ⟨f, hF⟩ := choose_lt each
    obtain ⟨b, off, sp⟩ := a
    have hsp : sp = none := by
      have h0 := (hF 0 hpos).1
      cases sp with
      | none => rfl
      | some s =>
        simp [Addr.add, World.cell?] at h0
        split at h0 <;> simp at h0
    subst hsp
    have hadd : ∀ x j, Addr.add ⟨b, x, none⟩ j = ⟨b, x + j, none⟩ := fun x j => by unfold Addr.add; split <;> simp_all
    have he : ∀ k, k < len → nl ((List.range len).map f) k = f k := fun k hk => by simp [nl, hk]
    refine ⟨(List.range len).map f, .inr ⟨b, off, m, by simp, ?_, fun k hk => ?_⟩, fun x hx => ?_⟩
    · have h0 := (hF 0 hpos).1
      rw [hadd] at h0
      exact World.block_lt_of_cell? w ⟨b, _, none⟩ h0
    · simp only [List.length_map, List.length_range] at hk
      rw [he k hk, ← hadd]
      exact (hF k hk).1
    · simp only [List.mem_map, List.mem_range] at hx
      obtain ⟨i, hil, rfl⟩ := hx
      exact (hF i hil).2
/-- Two sets apart. -/
def Two (w0 w : World) (sb g tb tg n : Nat) (m1 m2 : Nat → Bool) : Prop := ST w sb g n m1 ∧ ST w tb tg n m2 ∧ (sb ≠ tg ∧ g ≠ tb ∧ g ≠ tg) ∧ (w0.heap.size ≤ g ∧ w0.heap.size ≤ tg) ∧ Gn w0 w
theorem Two.gn {w0 w w' : World} {sb g tb tg n : Nat} {m1 m2 : Nat → Bool} (h : Two w0 w sb g tb tg n m1 m2) (hg : Gn w w') : Two w0 w' sb g tb tg n m1 m2 :=
  ⟨h.1.gn hg, h.2.1.gn hg, h.2.2.1, h.2.2.2.1, h.2.2.2.2.trans hg⟩
theorem put_any (w : World) (sb g N : Nat) (m : Nat → Bool) (p : Nat) (h : ST w sb g N m) (hN : N ≤ 4096) (h1 : p < N) :
    Calls Tryd.prog 7 #[.pointer (some ⟨sb, 0, none⟩), .int .i64 (p : Int)] w fun e w' => (∃ b, e = .returned (.bool b)) ∧ ST w' sb g N (putM m p) ∧ Kp (fun k => k = g) w w' := by
  cases hm : m p with
  | false => exact (put_yes w sb g N m p h hN h1 hm).mono fun e w' he => ⟨⟨_, he.1⟩, he.2⟩
  | true =>
    refine (put_no w sb g N m p h hN (.inr (.inr hm))).mono ?_
    rintro e w' ⟨he, rfl⟩
    rw [putM_same hm]
    exact ⟨⟨_, he⟩, h, Kp.refl _ _⟩
theorem put_one {w0 w : World} {sb g tb tg n : Nat} {m1 m2 : Nat → Bool} {p : Nat} (h : Two w0 w sb g tb tg n m1 m2) (hN : n ≤ 4096) (h1 : p < n) :
    Calls Tryd.prog 7 #[.pointer (some ⟨sb, 0, none⟩), .int .i64 (p : Int)] w fun e w' => (∃ b, e = .returned (.bool b)) ∧ Two w0 w' sb g tb tg n (putM m1 p) m2 := by
  obtain ⟨a, b, ⟨c1, c2, c3⟩, ⟨d1, d2⟩, e⟩ := h
  refine (put_any w sb g n m1 p a hN h1).mono ?_
  rintro e' w' ⟨h1, h2, h3⟩
  exact ⟨h1, h2, b.kept h3 (fun e => c2 e.symm) (fun e => c3 e.symm), ⟨c1, c2, c3⟩, ⟨d1, d2⟩, ((Kp.of_gn (fun k => w0.heap.size ≤ k) e).trans (h3.mono (fun k _ e => by subst e; exact d1))).to_gn (fun k e => e)⟩
theorem put_two {w0 w : World} {sb g tb tg n : Nat} {m1 m2 : Nat → Bool} {p : Nat} (h : Two w0 w sb g tb tg n m1 m2) (hN : n ≤ 4096) (h1 : p < n) :
    Calls Tryd.prog 7 #[.pointer (some ⟨tb, 0, none⟩), .int .i64 (p : Int)] w fun e w' => (∃ b, e = .returned (.bool b)) ∧ Two w0 w' sb g tb tg n m1 (putM m2 p) := by
  obtain ⟨a, b, ⟨c1, c2, c3⟩, ⟨d1, d2⟩, e⟩ := h
  refine (put_any w tb tg n m2 p b hN h1).mono ?_
  rintro e' w' ⟨h1, h2, h3⟩
  exact ⟨h1, a.kept h3 c1 c3, h2, ⟨c1, c2, c3⟩, ⟨d1, d2⟩, ((Kp.of_gn (fun k => w0.heap.size ≤ k) e).trans (h3.mono (fun k _ e => by subst e; exact d2))).to_gn (fun k e => e)⟩
end Go.Proofs.YtoaefmnjndklkaaDoor
