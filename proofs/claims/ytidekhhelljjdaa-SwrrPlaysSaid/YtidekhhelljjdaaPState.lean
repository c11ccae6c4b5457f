/- Both turners' states side by side: one contract of Pick for each, at any state and any set. -/
import Derived.Test.YtidekhhelljjdaaREmp2
namespace Go.Proofs.Ytidekhhelljjdaa
open Go.RowKit

/-- A turner's state: nothing, or a set, its numbers, its version. -/
abbrev TS := Option (List B × (Nat → Int) × Int)
def cur (st : TS) (l : List B) (ver : Int) : List B × (Nat → Int) := match st with
  | none => (l, fun _ => 0)
  | some (l', ns, v) => if v = ver then (l', ns) else (l, fun _ => 0)
def nxt (c : List B × (Nat → Int)) (ver : Int) : TS := some (c.1, nx c.1 c.2, ver)
def idOf (c : List B × (Nat → Int)) : Int := if c.1.length = 0 then 0 else (el c.1 (best c.1 c.2)).id
def okOf (c : List B × (Nat → Int)) : Bool := decide (0 < c.1.length)
def resV (c : List B × (Nat → Int)) : Value := .tuple #[.int .i64 (idOf c), .bool (okOf c)]
theorem resV_nil {c : List B × (Nat → Int)} (h : c.1 = []) : resV c = .tuple #[.int .i64 0, .bool false] := by unfold resV idOf okOf; simp [h]
theorem resV_pos {c : List B × (Nat → Int)} (h : 0 < c.1.length) : resV c = .tuple #[.int .i64 (el c.1 (best c.1 c.2)).id, .bool true] := by
  unfold resV idOf okOf
  rw [if_neg (by omega), decide_eq_true h]

/-- What is true of a state after at most T turns. -/
def VS (st : TS) (T : Nat) : Prop := ∀ l ns ver, st = some (l, ns, ver) → Tame l ∧ ∀ j, j < l.length → -((T : Int) * 65000) ≤ ns j ∧ ns j ≤ (T : Int) * 65000
theorem vs_none (T : Nat) : VS none T := fun _ _ _ h => by cases h
theorem cur_ok {st : TS} {T : Nat} {l : List B} {ver : Int} (h : VS st T) (ht : Tame l) : Tame (cur st l ver).1 ∧ ∀ j, j < (cur st l ver).1.length → -((T : Int) * 65000) ≤ (cur st l ver).2 j ∧ (cur st l ver).2 j ≤ (T : Int) * 65000 := by
  have hz : ∀ j : Nat, -((T : Int) * 65000) ≤ (0 : Int) ∧ (0 : Int) ≤ (T : Int) * 65000 := fun j => by omega
  unfold cur
  match st, h with
  | none, _ => exact ⟨ht, fun j _ => hz j⟩
  | some (l', ns, v), h =>
    by_cases e : v = ver
    · simp only [if_pos e]
      exact h _ _ _ rfl
    · simp only [if_neg e]
      exact ⟨ht, fun j _ => hz j⟩
theorem nx_bd {l : List B} {ns : Nat → Int} (ht : Tame l) {T : Nat} (h : ∀ j, j < l.length → -((T : Int) * 65000) ≤ ns j ∧ ns j ≤ (T : Int) * 65000) : ∀ j, j < l.length → -(((T + 1 : Nat) : Int) * 65000) ≤ nx l ns j ∧ nx l ns j ≤ ((T + 1 : Nat) : Int) * 65000 := by
  intro j hj
  have h1 := h j hj
  have h2 := ht.2 _ (el_mem hj)
  have h3 := ht.sum l.length (Nat.le_refl _)
  rw [List.take_length] at h3
  have h4 := ht.1
  unfold nx plus
  split <;> omega
theorem nxt_ok {st : TS} {T : Nat} {l : List B} {ver : Int} (h : VS st T) (ht : Tame l) : VS (nxt (cur st l ver) ver) (T + 1) := by
  intro l1 ns1 v1 e
  unfold nxt at e
  cases e
  have hc := cur_ok (ver := ver) h ht
  exact ⟨hc.1, nx_bd hc.1 hc.2⟩
theorem bd_of {l : List B} {ns : Nat → Int} {T : Nat} (hT : T ≤ 1000) (h : ∀ j, j < l.length → -((T : Int) * 65000) ≤ ns j ∧ ns j ≤ (T : Int) * 65000) : Bd l ns := fun j hj => by
  have := h j hj
  omega

/-- The program's turner; its blocks are of S. -/
def PP (w : World) (tb : Nat) (S : Nat → Prop) (st : TS) : Prop := S tb ∧ match st with
  | none => TB w tb true false 0 0 (.slice none 0 0)
  | some (l, ns, ver) => (l = [] ∧ TB w tb true true ver 0 (.slice none 0 0)) ∨ (0 < l.length ∧ ∃ g, S g ∧ Has w tb g l ns ver)
theorem PP.kept {w w' : World} {tb : Nat} {S T : Nat → Prop} {st : TS} (h : PP w tb S st) (hk : Kp T w w') (hd : ∀ j, S j → ¬ T j) : PP w' tb S st := by
  obtain ⟨h0, h1⟩ := h
  refine ⟨h0, ?_⟩
  match st, h1 with
  | none, h1 => exact TB.kept h1 hk (hd _ h0)
  | some (l, ns, ver), .inl ⟨e, h1⟩ => exact .inl ⟨e, TB.kept h1 hk (hd _ h0)⟩
  | some (l, ns, ver), .inr ⟨e, g, hg, h1⟩ => exact .inr ⟨e, g, hg, Has.kept h1 hk (hd _ h0) (hd _ hg)⟩
/-- The reference's turner; its blocks are of S, its list lies below B0. -/
def QQ (B0 : Nat) (w : World) (xb : Nat) (S : Nat → Prop) (st : TS) : Prop := S xb ∧ match st with
  | none => RT w xb false 0 (.slice none 0 0) (.slice none 0 0)
  | some (l, ns, ver) => (l = [] ∧ ∃ o c nb, RT w xb true ver (.slice o 0 c) (.slice (some ⟨nb, 0, none⟩) 0 0)) ∨ (0 < l.length ∧ ∃ nb b off cl cn, S nb ∧ b < B0 ∧ RHas w xb nb b off cl cn l ns ver)
theorem QQ.kept {B0 : Nat} {w w' : World} {xb : Nat} {S T : Nat → Prop} {st : TS} (h : QQ B0 w xb S st) (hk : Kp T w w') (hd : ∀ j, S j → ¬ T j) (hb : ∀ j, T j → B0 ≤ j) : QQ B0 w' xb S st := by
  obtain ⟨h0, h1⟩ := h
  refine ⟨h0, ?_⟩
  match st, h1 with
  | none, h1 => exact RT.kept h1 hk (hd _ h0)
  | some (l, ns, ver), .inl ⟨e, o, c, nb, h1⟩ => exact .inl ⟨e, o, c, nb, RT.kept h1 hk (hd _ h0)⟩
  | some (l, ns, ver), .inr ⟨e, nb, b, off, cl, cn, hn, hlt, ⟨r1, r2, r3, r4, r5⟩⟩ =>
    exact .inr ⟨e, nb, b, off, cl, cn, hn, hlt, RT.kept r1 hk (hd _ h0), cells_kept r2 hk (fun hT => by have := hb _ hT; omega), r3.kept hk (hd _ hn), r4, r5⟩

theorem pick_any (tb : Nat) (S : Nat → Prop) (st : TS) (T : Nat) (ver : Int) (v : Value) (l : List B) (w : World) (h : PP w tb S st) (hS : ∀ j, S j → j < w.heap.size) (hv : SA w v l) (ht : Tame l) (hst : VS st T) (hT : T ≤ 1000) :
    Calls Try.prog 9 #[.pointer (some ⟨tb, 0, none⟩), .agg #[.int .i64 ver, v]] w fun y w' => y = .returned (resV (cur st l ver)) ∧ ∃ S' : Nat → Prop, PP w' tb S' (nxt (cur st l ver) ver) ∧ Kp S' w w' ∧ (∀ j, S' j → S j ∨ w.heap.size ≤ j) ∧ (∀ j, S j → S' j) ∧ (∀ j, S' j → j < w'.heap.size) := by
  obtain ⟨h0, h1⟩ := h
  have hc := cur_ok (ver := ver) hst ht
  obtain ⟨o, c, rfl⟩ := hv.shape
  have hsub : ∀ {w' : World}, w.heap.size ≤ w'.heap.size → ∀ j, S j → j < w'.heap.size := fun hw j hj => by have := hS j hj; omega
  have hnew : ∀ (sm : Bool) (ver0 W0 : Int) (sv0 : Value), TB w tb true sm ver0 W0 sv0 → (sm = false ∨ ver0 ≠ ver) → cur st l ver = (l, fun _ => 0) →
      Calls Try.prog 9 #[.pointer (some ⟨tb, 0, none⟩), .agg #[.int .i64 ver, .slice o l.length c]] w fun y w' => y = .returned (resV (cur st l ver)) ∧ ∃ S' : Nat → Prop, PP w' tb S' (nxt (cur st l ver) ver) ∧ Kp S' w w' ∧ (∀ j, S' j → S j ∨ w.heap.size ≤ j) ∧ (∀ j, S j → S' j) ∧ (∀ j, S' j → j < w'.heap.size) := by
    intro sm ver0 W0 sv0 hTB hs he
    rw [he]
    rcases Nat.eq_zero_or_pos l.length with hz | hpos
    · have hnil : l = [] := List.length_eq_zero_iff.1 hz
      subst hnil
      refine (pick_empty2 tb sm ver0 W0 ver sv0 o c w hTB hs).mono ?_
      rintro y w' ⟨rfl, hT1, hK⟩
      exact ⟨by rw [resV_nil rfl], S, ⟨h0, .inl ⟨rfl, hT1⟩⟩, hK.mono (fun j _ e => by subst e; exact h0), fun j hj => .inl hj, fun j hj => hj, hsub hK.size⟩
    · obtain ⟨b, off, rfl, _, hcl⟩ := hv.row hpos
      refine (pick_new tb sm ver0 W0 ver sv0 _ l w hTB hs (.inr ⟨b, off, c, rfl, hcl⟩) hpos ht).mono ?_
      rintro y w' ⟨g, hg, rfl, hH, hK⟩
      have hgl : g < w'.heap.size := by obtain ⟨_, _, hr, _⟩ := hH; exact hr.1
      refine ⟨by rw [resV_pos hpos], fun j => S j ∨ j = g, ⟨.inl h0, .inr ⟨hpos, g, .inr rfl, hH⟩⟩, hK.mono (fun j _ e => ?_), fun j hj => ?_, fun j hj => .inl hj, fun j hj => ?_⟩
      · rcases e with rfl | rfl
        · exact .inl h0
        · exact .inr rfl
      · rcases hj with hj | rfl
        · exact .inl hj
        · exact .inr hg
      · rcases hj with hj | rfl
        · exact hsub hK.size j hj
        · exact hgl
  match st, h1, hst, hc, hnew with
  | none, h1, _, _, hnew => exact hnew _ _ _ _ h1 (.inl rfl) rfl
  | some (l', ns, v'), h1, hst, hc, hnew =>
    by_cases e : v' = ver
    · subst e
      have he : cur (some (l', ns, v')) l v' = (l', ns) := by unfold cur; simp
      rw [he] at hc ⊢
      rcases h1 with ⟨rfl, hTB⟩ | ⟨hpos, g, hg, hH⟩
      · refine (pick_again tb v' _ w hTB ⟨_, _, _, rfl⟩).mono ?_
        rintro y w' ⟨rfl, hT1, hK⟩
        exact ⟨by rw [resV_nil rfl], S, ⟨h0, .inl ⟨rfl, hT1⟩⟩, hK.mono (fun j _ e => by subst e; exact h0), fun j hj => .inl hj, fun j hj => hj, hsub hK.size⟩
      · refine (pick_same tb g v' _ l' ns w hH hpos hc.1 (bd_of hT hc.2) ⟨_, _, _, rfl⟩).mono ?_
        rintro y w' ⟨rfl, hH', hK⟩
        refine ⟨by rw [resV_pos hpos], S, ⟨h0, .inr ⟨hpos, g, hg, hH'⟩⟩, hK.mono (fun j _ e => ?_), fun j hj => .inl hj, fun j hj => hj, hsub hK.size⟩
        rcases e with rfl | rfl
        · exact h0
        · exact hg
    · have he : cur (some (l', ns, v')) l ver = (l, fun _ => 0) := by unfold cur; simp [e]
      rcases h1 with ⟨rfl, hTB⟩ | ⟨hpos, g, hg, cap, hTB, _⟩
      · exact hnew _ _ _ _ hTB (.inr e) he
      · exact hnew _ _ _ _ hTB (.inr e) he

theorem rpick_any (B0 xb : Nat) (S : Nat → Prop) (st : TS) (T : Nat) (ver : Int) (v : Value) (l : List B) (w : World) (h : QQ B0 w xb S st) (hS : ∀ j, S j → j < w.heap.size) (hB : ∀ j, S j → B0 ≤ j) (hB1 : B0 ≤ w.heap.size)
    (hv : SA w v l) (hvb : ∀ b off n c, v = .slice (some ⟨b, off, none⟩) n c → 0 < n → b < B0) (ht : Tame l) (hst : VS st T) (hT : T ≤ 1000) :
    Calls Try.prog 11 #[.pointer (some ⟨xb, 0, none⟩), .int .i64 ver, v] w fun y w' => y = .returned (resV (cur st l ver)) ∧ ∃ S' : Nat → Prop, QQ B0 w' xb S' (nxt (cur st l ver) ver) ∧ Kp S' w w' ∧ (∀ j, S' j → S j ∨ w.heap.size ≤ j) ∧ (∀ j, S j → S' j) ∧ (∀ j, S' j → j < w'.heap.size) := by
  obtain ⟨h0, h1⟩ := h
  have hc := cur_ok (ver := ver) hst ht
  obtain ⟨o, c, rfl⟩ := hv.shape
  have hsub : ∀ {w' : World}, w.heap.size ≤ w'.heap.size → ∀ j, S j → j < w'.heap.size := fun hw j hj => by have := hS j hj; omega
  have hfin : ∀ (l1 : List B) (ns1 : Nat → Int) (y : Ending) (w' : World), (∃ nb b off cl cn, (S nb ∨ w.heap.size ≤ nb) ∧ b < B0 ∧ y = .returned (.tuple #[.int .i64 (el l1 (best l1 ns1)).id, .bool true]) ∧ RHas w' xb nb b off cl cn l1 (nx l1 ns1) ver ∧ Kp (fun j => j = xb ∨ j = nb) w w') → 0 < l1.length →
      y = .returned (resV (l1, ns1)) ∧ ∃ S' : Nat → Prop, QQ B0 w' xb S' (nxt (l1, ns1) ver) ∧ Kp S' w w' ∧ (∀ j, S' j → S j ∨ w.heap.size ≤ j) ∧ (∀ j, S j → S' j) ∧ (∀ j, S' j → j < w'.heap.size) := by
    rintro l1 ns1 y w' ⟨nb, b, off, cl, cn, hnb, hbB, rfl, hR, hK⟩ hpos
    have hnl : nb < w'.heap.size := by obtain ⟨_, _, hN, _⟩ := hR; exact hN.1
    refine ⟨by rw [resV_pos (c := (l1, ns1)) hpos], fun j => S j ∨ j = nb, ⟨.inl h0, .inr ⟨hpos, nb, b, off, cl, cn, .inr rfl, hbB, hR⟩⟩, hK.mono (fun j _ e => ?_), fun j hj => ?_, fun j hj => .inl hj, fun j hj => ?_⟩
    · rcases e with rfl | rfl
      · exact .inl h0
      · exact .inr rfl
    · rcases hj with hj | rfl
      · exact .inl hj
      · exact hnb
    · rcases hj with hj | rfl
      · exact hsub hK.size j hj
      · exact hnl
  have hnew : ∀ (hs : Bool) (ver0 : Int) (o1 o2 : Option Addr) (n1 c1 n2 c2 : Nat), RT w xb hs ver0 (.slice o1 n1 c1) (.slice o2 n2 c2) → (hs = false ∨ ver0 ≠ ver) → cur st l ver = (l, fun _ => 0) →
      Calls Try.prog 11 #[.pointer (some ⟨xb, 0, none⟩), .int .i64 ver, .slice o l.length c] w fun y w' => y = .returned (resV (cur st l ver)) ∧ ∃ S' : Nat → Prop, QQ B0 w' xb S' (nxt (cur st l ver) ver) ∧ Kp S' w w' ∧ (∀ j, S' j → S j ∨ w.heap.size ≤ j) ∧ (∀ j, S j → S' j) ∧ (∀ j, S' j → j < w'.heap.size) := by
    intro hs ver0 o1 o2 n1 c1 n2 c2 hRT hn he
    rw [he]
    rcases Nat.eq_zero_or_pos l.length with hz | hpos
    · have hnil : l = [] := List.length_eq_zero_iff.1 hz
      subst hnil
      have hcall : Calls Try.prog 11 #[.pointer (some ⟨xb, 0, none⟩), .int .i64 ver, .slice o 0 c] w fun y w' => y = .returned (.tuple #[.int .i64 0, .bool false]) ∧
          (∃ nb, RT w' xb true ver (.slice o 0 c) (.slice (some ⟨nb, 0, none⟩) 0 0)) ∧ Kp (fun j => j = xb) w w' := by
        cases hs
        · exact rpick_empty xb ver0 ver o1 o2 o n1 c1 n2 c2 c w hRT
        · exact rpick_empty_next xb ver0 ver o1 o2 o n1 c1 n2 c2 c w hRT (by simpa using hn)
      refine hcall.mono ?_
      rintro y w' ⟨rfl, ⟨nb, hR⟩, hK⟩
      exact ⟨by rw [resV_nil rfl], S, ⟨h0, .inl ⟨rfl, _, _, _, hR⟩⟩, hK.mono (fun j _ e => by subst e; exact h0), fun j hj => .inl hj, fun j hj => hj, hsub hK.size⟩
    · obtain ⟨b, off, rfl, _, hcl⟩ := hv.row hpos
      have hb := hvb _ _ _ _ rfl hpos
      have hbx : b ≠ xb := by have := hB _ h0; omega
      have hcall : Calls Try.prog 11 #[.pointer (some ⟨xb, 0, none⟩), .int .i64 ver, .slice (some ⟨b, off, none⟩) l.length c] w fun y w' => ∃ nb cn, w.heap.size ≤ nb ∧ y = .returned (.tuple #[.int .i64 (el l (best l fun _ => 0)).id, .bool true]) ∧
          RHas w' xb nb b off c cn l (nx l fun _ => 0) ver ∧ Kp (fun j => j = xb ∨ j = nb) w w' := by
        cases hs
        · exact rpick_new xb b off c ver0 ver _ _ l w hRT hcl hbx hpos ht ⟨_, _, _, rfl⟩ ⟨_, _, _, rfl⟩
        · exact rpick_next xb b off c ver0 ver _ _ l w hRT (by simpa using hn) hcl hbx hpos ht ⟨_, _, _, rfl⟩ ⟨_, _, _, rfl⟩
      refine hcall.mono ?_
      rintro y w' ⟨nb, cn, hnb, hy, hR, hK⟩
      exact hfin l _ y w' ⟨nb, b, off, c, cn, .inr hnb, hb, hy, hR, hK⟩ hpos
  match st, h1, hst, hc, hnew with
  | none, h1, _, _, hnew => exact hnew _ _ _ _ _ _ _ _ h1 (.inl rfl) rfl
  | some (l', ns, v'), h1, hst, hc, hnew =>
    by_cases e : v' = ver
    · subst e
      have he : cur (some (l', ns, v')) l v' = (l', ns) := by unfold cur; simp
      rw [he] at hc ⊢
      rcases h1 with ⟨rfl, o1, c1, nb, hRT⟩ | ⟨hpos, nb, b, off, cl, cn, hnb, hb, hR⟩
      · refine (rpick_again xb nb v' o1 c1 _ w hRT).mono ?_
        rintro y w' ⟨rfl, hT1, hK⟩
        exact ⟨by rw [resV_nil rfl], S, ⟨h0, .inl ⟨rfl, _, _, _, hT1⟩⟩, hK.mono (fun j _ e => by subst e; exact h0), fun j hj => .inl hj, fun j hj => hj, hsub hK.size⟩
      · refine (rpick_same xb nb b off cl cn v' _ l' ns w hR hpos hc.1 (bd_of hT hc.2)).mono ?_
        rintro y w' ⟨hy, hR', hK⟩
        exact hfin l' ns y w' ⟨nb, b, off, cl, cn, .inl hnb, hb, hy, hR', hK.mono (fun j _ e => .inr e)⟩ hpos
    · have he : cur (some (l', ns, v')) l ver = (l, fun _ => 0) := by unfold cur; simp [e]
      rcases h1 with ⟨rfl, o1, c1, nb, hRT⟩ | ⟨hpos, nb, b, off, cl, cn, hnb, hb, hRT, _⟩
      · exact hnew _ _ _ _ _ _ _ _ hRT (.inr e) he
      · exact hnew _ _ _ _ _ _ _ _ hRT (.inr e) he
end Go.Proofs.Ytidekhhelljjdaa
