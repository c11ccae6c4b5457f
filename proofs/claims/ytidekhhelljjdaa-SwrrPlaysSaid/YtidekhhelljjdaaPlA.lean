/- What the law SwrrPlays asks of both turners' states: picks, numbers, versions. -/
import Derived.Test.YtidekhhelljjdaaPState
namespace Go.Proofs.Ytidekhhelljjdaa
open Go.RowKit

theorem sameints_nil (o o' : Option Addr) (c c' : Nat) (w : World) : Calls Try.prog 12 #[.slice o 0 c, .slice o' 0 c'] w fun y w' => y = .returned (.bool true) ∧ Gn w w' := by
  go_enter Try.func12, Try.ntmps12
  go_wp2
  refine wp_loop_rounds 1 ?_
  rw [rounds_succ]
  go_wp2
  go_ret
  exact ⟨rfl, Gn.refl _⟩
theorem version_none (tb : Nat) (S : Nat → Prop) (w : World) (h : PP w tb S none) : Calls Try.prog 13 #[.pointer (some ⟨tb, 0, none⟩)] w fun y w' => y = .returned (.tuple #[.int .i64 0, .bool false]) ∧ Gn w w' := version_no tb _ _ _ _ w h.2
theorem version_some (tb : Nat) (S : Nat → Prop) (l : List B) (ns : Nat → Int) (ver : Int) (w : World) (h : PP w tb S (some (l, ns, ver))) : Calls Try.prog 13 #[.pointer (some ⟨tb, 0, none⟩)] w fun y w' => y = .returned (.tuple #[.int .i64 ver, .bool true]) ∧ Gn w w' := by
  rcases h.2 with ⟨_, h1⟩ | ⟨_, g, _, cap, h1, _⟩
  · exact version_is tb _ _ _ _ w h1
  · exact version_is tb _ _ _ _ w h1
def verOf : TS → Int
  | none => 0
  | some (_, _, v) => v
def hasOf : TS → Bool
  | none => false
  | some _ => true
theorem version_any (tb : Nat) (S : Nat → Prop) (st : TS) (w : World) (h : PP w tb S st) : Calls Try.prog 13 #[.pointer (some ⟨tb, 0, none⟩)] w fun y w' => y = .returned (.tuple #[.int .i64 (verOf st), .bool (hasOf st)]) ∧ Gn w w' := by
  match st, h with
  | none, h => exact version_none tb S w h
  | some (l, ns, v), h => exact version_some tb S l ns v w h
theorem QQ.facts {B0 : Nat} {w : World} {xb : Nat} {S : Nat → Prop} {st : TS} (h : QQ B0 w xb S st) : xb < w.heap.size ∧ w.cell? ⟨xb, 0, none⟩ = some (.bool (hasOf st)) ∧ w.cell? ⟨xb, 1, none⟩ = some (.int .i64 (verOf st)) := by
  match st, h with
  | none, ⟨_, h⟩ => exact ⟨RT.lt h, (RT.facts h).2.1, (RT.facts h).2.2.1⟩
  | some (l, ns, v), ⟨_, .inl ⟨_, o, c, nb, h⟩⟩ => exact ⟨RT.lt h, (RT.facts h).2.1, (RT.facts h).2.2.1⟩
  | some (l, ns, v), ⟨_, .inr ⟨_, nb, b, off, cl, cn, _, _, h, _⟩⟩ => exact ⟨RT.lt h, (RT.facts h).2.1, (RT.facts h).2.2.1⟩
theorem numbers_pp (tb : Nat) (S : Nat → Prop) (l : List B) (ns : Nat → Int) (ver : Int) (w : World) (h : PP w tb S (some (l, ns, ver))) (hl : l.length ≤ 64) :
    Calls Try.prog 10 #[.pointer (some ⟨tb, 0, none⟩)] w fun y w' => ∃ v', y = .returned v' ∧ IL w' v' (upto ns l.length) ∧ Gn w w' := by
  rcases h.2 with ⟨rfl, h1⟩ | ⟨_, g, _, h1⟩
  · exact numbers_none tb _ _ _ _ w h1
  · exact numbers_is tb g l ns ver w h1 hl
theorem IL.shape {w : World} {v : Value} {l : List Int} (h : IL w v l) : ∃ o c, v = .slice o l.length c := by
  rcases h with ⟨rfl, rfl⟩ | ⟨b, cap, rfl, _⟩ <;> exact ⟨_, _, rfl⟩
/-- The reference's numbers: where they lie, and that they are the same as others that read alike. -/
theorem xnum {B0 : Nat} {w : World} {xb : Nat} {S : Nat → Prop} {l : List B} {ns : Nat → Int} {ver : Int} (h : QQ B0 w xb S (some (l, ns, ver))) (hl : l.length ≤ 64) :
    ∃ o c, w.cell? ⟨xb, 3, none⟩ = some (.slice o l.length c) ∧ ∀ w1 v', Gn w w1 → IL w1 v' (upto ns l.length) → Calls Try.prog 12 #[v', .slice o l.length c] w1 fun y w' => y = .returned (.bool true) ∧ Gn w1 w' := by
  rcases h.2 with ⟨rfl, o, c, nb, h1⟩ | ⟨hpos, nb, b, off, cl, cn, _, _, h1, _, h2, _, _⟩
  · refine ⟨_, _, (RT.facts h1).2.2.2.2, fun w1 v' hg hi => ?_⟩
    obtain ⟨o', c', rfl⟩ := hi.shape
    exact sameints_nil _ _ _ _ _
  · refine ⟨_, _, (RT.facts h1).2.2.2.2, fun w1 v' hg hi => ?_⟩
    have h3 := h2.kept (Kp.of_gn (fun _ => False) hg) (fun e => e)
    refine sameints_is v' _ (upto ns l.length) w1 hi (.inr ⟨nb, cn, by rw [upto_length], h3.1, fun k hk => ?_⟩) (by rw [upto_length]; exact hl)
    rw [upto_length] at hk
    rw [getD_upto _ _ _ hk]
    exact (h3.2 k hk).1

/-- Both states at one place of the law; X: blocks that are nobody's of them. -/
structure PSt (w0 : World) (tb xb : Nat) (X : Nat → Prop) (T : Nat) (st : TS) (wr : World) : Prop where
  kp : Kp (fun j => w0.heap.size ≤ j) w0 wr
  hs : ∃ S S' : Nat → Prop, PP wr tb S st ∧ QQ w0.heap.size wr xb S' st ∧ (∀ j, S j → w0.heap.size ≤ j ∧ j < wr.heap.size ∧ ¬ X j) ∧ (∀ j, S' j → w0.heap.size ≤ j ∧ j < wr.heap.size ∧ ¬ X j) ∧ (∀ j, S j → ¬ S' j)
  vs : VS st T
/-- Behind the program's pick, ahead of the reference's. -/
structure PSm (w0 : World) (tb xb : Nat) (X : Nat → Prop) (T : Nat) (st : TS) (l : List B) (ver : Int) (wr : World) : Prop where
  kp : Kp (fun j => w0.heap.size ≤ j) w0 wr
  hs : ∃ S S' : Nat → Prop, PP wr tb S (nxt (cur st l ver) ver) ∧ QQ w0.heap.size wr xb S' st ∧ (∀ j, S j → w0.heap.size ≤ j ∧ j < wr.heap.size ∧ ¬ X j) ∧ (∀ j, S' j → w0.heap.size ≤ j ∧ j < wr.heap.size ∧ ¬ X j) ∧ (∀ j, S j → ¬ S' j)
  vs : VS st T
theorem PSt.grown {w0 wr w' : World} {tb xb : Nat} {X : Nat → Prop} {T : Nat} {st : TS} (h : PSt w0 tb xb X T st wr) (hg : Gn wr w') : PSt w0 tb xb X T st w' := by
  obtain ⟨h1, ⟨S, S', h2, h3, h4, h5, h6⟩, h7⟩ := h
  have hz := hg.size
  exact ⟨h1.gn hg, ⟨S, S', h2.kept (Kp.of_gn (fun _ => False) hg) (fun _ _ e => e), h3.kept (Kp.of_gn (fun _ => False) hg) (fun _ _ e => e) (fun _ e => e.elim),
    fun j hj => ⟨(h4 j hj).1, by have := (h4 j hj).2.1; omega, (h4 j hj).2.2⟩, fun j hj => ⟨(h5 j hj).1, by have := (h5 j hj).2.1; omega, (h5 j hj).2.2⟩, h6⟩, h7⟩
theorem PSm.grown {w0 wr w' : World} {tb xb : Nat} {X : Nat → Prop} {T : Nat} {st : TS} {l : List B} {ver : Int} (h : PSm w0 tb xb X T st l ver wr) (hg : Gn wr w') : PSm w0 tb xb X T st l ver w' := by
  obtain ⟨h1, ⟨S, S', h2, h3, h4, h5, h6⟩, h7⟩ := h
  have hz := hg.size
  exact ⟨h1.gn hg, ⟨S, S', h2.kept (Kp.of_gn (fun _ => False) hg) (fun _ _ e => e), h3.kept (Kp.of_gn (fun _ => False) hg) (fun _ _ e => e) (fun _ e => e.elim),
    fun j hj => ⟨(h4 j hj).1, by have := (h4 j hj).2.1; omega, (h4 j hj).2.2⟩, fun j hj => ⟨(h5 j hj).1, by have := (h5 j hj).2.1; omega, (h5 j hj).2.2⟩, h6⟩, h7⟩
/-- Other blocks that are nobody's. -/
theorem PSt.newX {w0 wr w' : World} {tb xb : Nat} {X X' : Nat → Prop} {T : Nat} {st : TS} (h : PSt w0 tb xb X T st wr) (hg : Gn wr w') (hX : ∀ j, j < wr.heap.size → w0.heap.size ≤ j → X' j → X j) : PSt w0 tb xb X' T st w' := by
  obtain ⟨h1, ⟨S, S', h2, h3, h4, h5, h6⟩, h7⟩ := h
  have hz := hg.size
  exact ⟨h1.gn hg, ⟨S, S', h2.kept (Kp.of_gn (fun _ => False) hg) (fun _ _ e => e), h3.kept (Kp.of_gn (fun _ => False) hg) (fun _ _ e => e) (fun _ e => e.elim),
    fun j hj => ⟨(h4 j hj).1, by have := (h4 j hj).2.1; omega, fun hx => (h4 j hj).2.2 (hX j (h4 j hj).2.1 (h4 j hj).1 hx)⟩, fun j hj => ⟨(h5 j hj).1, by have := (h5 j hj).2.1; omega, fun hx => (h5 j hj).2.2 (hX j (h5 j hj).2.1 (h5 j hj).1 hx)⟩, h6⟩, h7⟩
theorem PSt.more {w0 wr : World} {tb xb : Nat} {X : Nat → Prop} {T T' : Nat} {st : TS} (h : PSt w0 tb xb X T st wr) (hT : T ≤ T') : PSt w0 tb xb X T' st wr :=
  ⟨h.kp, h.hs, fun l ns ver e => ⟨(h.vs l ns ver e).1, fun j hj => by have := (h.vs l ns ver e).2 j hj; omega⟩⟩

theorem pst_pick {w0 wr : World} {tb xb : Nat} {X : Nat → Prop} {T : Nat} {st : TS} (h : PSt w0 tb xb X T st wr) (hX : ∀ j, X j → j < wr.heap.size) {v : Value} {l : List B} {ver : Int} (hv : SA wr v l) (ht : Tame l) (hT : T ≤ 1000) :
    Calls Try.prog 9 #[.pointer (some ⟨tb, 0, none⟩), .agg #[.int .i64 ver, v]] wr fun y w' => y = .returned (resV (cur st l ver)) ∧ PSm w0 tb xb X T st l ver w' ∧ Kp (fun j => w0.heap.size ≤ j ∧ ¬ X j) wr w' := by
  obtain ⟨h1, ⟨S, S', h2, h3, h4, h5, h6⟩, h7⟩ := h
  refine (pick_any tb S st T ver v l wr h2 (fun j hj => (h4 j hj).2.1) hv ht h7 hT).mono ?_
  rintro y w' ⟨rfl, S1, g1, g2, g3, g4, g5⟩
  have hz := g2.size
  have hz0 := h1.size
  have hS1 : ∀ j, S1 j → w0.heap.size ≤ j ∧ j < w'.heap.size ∧ ¬ X j := fun j hj => by
    rcases g3 j hj with hj' | hj'
    · exact ⟨(h4 j hj').1, g5 j hj, (h4 j hj').2.2⟩
    · exact ⟨by omega, g5 j hj, fun hx => by have := hX j hx; omega⟩
  have hd : ∀ j, S1 j → ¬ S' j := fun j hj hj2 => by
    rcases g3 j hj with hj' | hj'
    · exact h6 j hj' hj2
    · have := (h5 j hj2).2.1; omega
  exact ⟨rfl, ⟨h1.trans (g2.mono fun j _ hj => (hS1 j hj).1), ⟨S1, S', g1, h3.kept g2 (fun j hj hj2 => hd j hj2 hj) (fun j hj => (hS1 j hj).1), hS1, fun j hj => ⟨(h5 j hj).1, by have := (h5 j hj).2.1; omega, (h5 j hj).2.2⟩, hd⟩, h7⟩,
    g2.mono fun j _ hj => ⟨(hS1 j hj).1, (hS1 j hj).2.2⟩⟩

theorem psm_pick {w0 wr : World} {tb xb : Nat} {X : Nat → Prop} {T : Nat} {st : TS} {l : List B} {ver : Int} (h : PSm w0 tb xb X T st l ver wr) (hX : ∀ j, X j → j < wr.heap.size) {v : Value} (hv : SA wr v l)
    (hvb : ∀ b off n c, v = .slice (some ⟨b, off, none⟩) n c → 0 < n → b < w0.heap.size) (ht : Tame l) (hT : T ≤ 1000) :
    Calls Try.prog 11 #[.pointer (some ⟨xb, 0, none⟩), .int .i64 ver, v] wr fun y w' => y = .returned (resV (cur st l ver)) ∧ PSt w0 tb xb X (T + 1) (nxt (cur st l ver) ver) w' ∧ Kp (fun j => w0.heap.size ≤ j ∧ ¬ X j) wr w' := by
  obtain ⟨h1, ⟨S, S', h2, h3, h4, h5, h6⟩, h7⟩ := h
  refine (rpick_any w0.heap.size xb S' st T ver v l wr h3 (fun j hj => (h5 j hj).2.1) (fun j hj => (h5 j hj).1) h1.size hv hvb ht h7 hT).mono ?_
  rintro y w' ⟨rfl, S1, g1, g2, g3, g4, g5⟩
  have hz := g2.size
  have hz0 := h1.size
  have hS1 : ∀ j, S1 j → w0.heap.size ≤ j ∧ j < w'.heap.size ∧ ¬ X j := fun j hj => by
    rcases g3 j hj with hj' | hj'
    · exact ⟨(h5 j hj').1, g5 j hj, (h5 j hj').2.2⟩
    · exact ⟨by omega, g5 j hj, fun hx => by have := hX j hx; omega⟩
  have hd : ∀ j, S j → ¬ S1 j := fun j hj hj2 => by
    rcases g3 j hj2 with hj' | hj'
    · exact h6 j hj hj'
    · have := (h4 j hj).2.1; omega
  exact ⟨rfl, ⟨h1.trans (g2.mono fun j _ hj => (hS1 j hj).1), ⟨S, S1, h2.kept g2 hd, g1, fun j hj => ⟨(h4 j hj).1, by have := (h4 j hj).2.1; omega, (h4 j hj).2.2⟩, hS1, hd⟩, nxt_ok h7 ht⟩,
    g2.mono fun j _ hj => ⟨(hS1 j hj).1, (hS1 j hj).2.2⟩⟩

theorem pst_numbers {w0 wr : World} {tb xb : Nat} {X : Nat → Prop} {T : Nat} {c : List B × (Nat → Int)} {ver : Int} (h : PSt w0 tb xb X T (nxt c ver) wr) :
    Calls Try.prog 10 #[.pointer (some ⟨tb, 0, none⟩)] wr fun y w' => ∃ v', y = .returned v' ∧ IL w' v' (upto (nx c.1 c.2) c.1.length) ∧ Gn wr w' := by
  obtain ⟨_, ⟨S, S', h2, _⟩, h7⟩ := h
  exact numbers_pp tb S c.1 (nx c.1 c.2) ver wr h2 (h7 _ _ _ rfl).1.1
theorem pst_xnum {w0 wr : World} {tb xb : Nat} {X : Nat → Prop} {T : Nat} {c : List B × (Nat → Int)} {ver : Int} (h : PSt w0 tb xb X T (nxt c ver) wr) :
    ∃ o cc, wr.cell? ⟨xb, 3, none⟩ = some (.slice o c.1.length cc) ∧ ∀ w1 v', Gn wr w1 → IL w1 v' (upto (nx c.1 c.2) c.1.length) → Calls Try.prog 12 #[v', .slice o c.1.length cc] w1 fun y w' => y = .returned (.bool true) ∧ Gn w1 w' := by
  obtain ⟨_, ⟨S, S', _, h3, _⟩, h7⟩ := h
  exact xnum h3 (h7 _ _ _ rfl).1.1
theorem pst_version {w0 wr : World} {tb xb : Nat} {X : Nat → Prop} {T : Nat} {st : TS} (h : PSt w0 tb xb X T st wr) :
    Calls Try.prog 13 #[.pointer (some ⟨tb, 0, none⟩)] wr fun y w' => y = .returned (.tuple #[.int .i64 (verOf st), .bool (hasOf st)]) ∧ Gn wr w' := by
  obtain ⟨_, ⟨S, S', h2, _⟩, h7⟩ := h
  exact version_any tb S st wr h2
theorem pst_facts {w0 wr : World} {tb xb : Nat} {X : Nat → Prop} {T : Nat} {st : TS} (h : PSt w0 tb xb X T st wr) : xb < wr.heap.size ∧ wr.cell? ⟨xb, 0, none⟩ = some (.bool (hasOf st)) ∧ wr.cell? ⟨xb, 1, none⟩ = some (.int .i64 (verOf st)) := by
  obtain ⟨_, ⟨S, S', _, h3, _⟩, _⟩ := h
  exact h3.facts
theorem pst_start {w0 wn : World} {tb : Nat} (hg : Gn w0 wn) (ht : w0.heap.size ≤ tb) (hTB : TB wn tb true false 0 0 (.slice none 0 0)) :
    PSt w0 tb wn.heap.size (fun _ => False) 0 none (wn.alloc (.cells #[.bool false, .int .i64 0, .slice none 0 0, .slice none 0 0] 43)) := by
  have hz := hg.size
  have htl := hTB.lt
  have hga : Gn wn (wn.alloc (.cells #[.bool false, .int .i64 0, .slice none 0 0, .slice none 0 0] 43)) := (Gn.refl _).alloc _
  refine ⟨(Kp.of_gn _ hg).gn hga, ⟨fun j => j = tb, fun j => j = wn.heap.size, ⟨rfl, hTB.grown hga⟩, ⟨rfl, heap_alloc_new wn _⟩, fun j hj => ?_, fun j hj => ?_, fun j hj hj2 => ?_⟩, vs_none _⟩
  · subst hj; exact ⟨ht, by simp; omega, fun e => e⟩
  · subst hj; exact ⟨hz, by simp, fun e => e⟩
  · subst hj; omega
end Go.Proofs.Ytidekhhelljjdaa
