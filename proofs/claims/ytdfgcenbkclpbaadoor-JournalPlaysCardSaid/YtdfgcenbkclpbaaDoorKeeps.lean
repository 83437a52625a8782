/- What a journal keeps in its flash, call by call: plain. -/
import Derived.Test.YtdfgcenbkclpbaaDoorTurnP
namespace Go.Proofs.YtdfgcenbkclpbaaDoor
open Go.RowKit
set_option linter.unusedSimpArgs false
set_option linter.unusedVariables false
/-- how many words the records of the groups that live take -/
def liveP : List PSlot → Nat
  | [] => 0
  | x :: r => (if x.there && !x.marked then 2 + (x.b.length + 3) / 4 else 0) + liveP r
theorem liveWords_p (l : List Slot) : liveWords l = liveP (l.map Slot.p) := by
  induction l with
  | nil => rfl
  | cons x r ih => rw [List.map_cons, liveWords, liveP, ih]; rfl
theorem liveP_set (x : PSlot) : ∀ (l : List PSlot) (i : Nat), liveP (l.set i x) ≤ liveP l + (2 + (x.b.length + 3) / 4)
  | [], _ => by simp [liveP]
  | y :: l, 0 => by rw [List.set_cons_zero, liveP, liveP]; split <;> omega
  | y :: l, i + 1 => by rw [List.set_cons_succ, liveP, liveP]; have := liveP_set x l i; omega
theorem liveP_take (sl : List PSlot) (h : W4) (b : List UInt8) : liveP (takeRec sl h b) ≤ liveP sl + (2 + (b.length + 3) / 4) := by
  unfold takeRec
  split
  · omega
  · split
    · exact liveP_set _ _ _
    · split
      · have := liveP_set ⟨false, false, []⟩ sl h.a.toNat
        have e : ([] : List UInt8).length = 0 := rfl
        simp only [e] at this
        omega
      · omega
theorem Fl.parse_room {F : Fl} {base size : Nat} (hs : base + size ≤ F.mem.length) : ∀ at_ sl, at_ ≤ size → liveP (F.parse base size at_ sl).2 + at_ ≤ (F.parse base size at_ sl).1 + liveP sl := by
  refine Fl.parse_ind (F := F) (base := base) (size := size) (fun at_ sl h h1 => ?_) (fun at_ sl h1 h2 h3 _ => ?_) (fun at_ sl h1 h2 h3 ih _ => ?_)
  · rw [Fl.parse_end sl h]; simp only; omega
  · rw [Fl.parse_over sl h1 h2 h3]; simp only; omega
  · rw [Fl.parse_next sl h1 h2 h3]
    have ih := ih h3
    have ht := liveP_take sl (F.recHead base at_ (F.word (base + at_))) (F.recBytes base at_ (F.word (base + at_)))
    rw [Fl.recBytes_length _ _ _ _ (by omega)] at ht
    have hn : recNext (F.word (base + at_)) at_ = at_ + 2 + (recLen (F.word (base + at_)) + 3) / 4 := rfl
    omega
theorem open1_open1 (x : PSlot) : x.open1.open1 = x.open1 := by
  unfold PSlot.open1
  split
  · rename_i h; simp [h]
  · simp
theorem opened_opened (l : List PSlot) : opened (opened l) = opened l := by
  unfold opened; rw [List.map_map]; congr 1; funext x; exact open1_open1 x
theorem opened_set (l : List PSlot) (i : Nat) (x : PSlot) : opened (l.set i x) = (opened l).set i x.open1 := by unfold opened; rw [List.map_set]
theorem opened_length (l : List PSlot) : (opened l).length = l.length := List.length_map ..
theorem opened_take {sl : List PSlot} (ho : opened sl = sl) (h : W4) (b : List UInt8) : opened (takeRec sl h b) = takeRec sl h b := by
  unfold takeRec
  split
  · exact ho
  · split
    · rw [opened_set, ho]; rfl
    · split
      · rw [opened_set, ho]; rfl
      · exact ho
theorem Fl.parse_opened {F : Fl} {base size : Nat} : ∀ at_ sl, opened sl = sl → opened (F.parse base size at_ sl).2 = (F.parse base size at_ sl).2 := by
  refine Fl.parse_ind (F := F) (base := base) (size := size) (fun at_ sl h h1 => ?_) (fun at_ sl h1 h2 h3 ho => ?_) (fun at_ sl h1 h2 h3 ih ho => ?_)
  · rw [Fl.parse_end sl h]; exact h1
  · rw [Fl.parse_over sl h1 h2 h3]; exact ho
  · rw [Fl.parse_next sl h1 h2 h3]; exact ih (opened_take ho _ _)
theorem opened_blanks : opened blanks = blanks := by decide
theorem liveP_blanks : liveP blanks = 0 := by decide
theorem Fl.readAll_opened {F : Fl} {first count e : Nat} {P : List PSlot} (h : F.readAll first count blanks = (e, P)) : opened P = P := by
  rw [Fl.readAll_eq] at h
  rw [← (Prod.mk.inj h).2]
  exact Fl.parse_opened _ _ opened_blanks
theorem Fl.readAll_room {F : Fl} {first count e : Nat} {P : List PSlot} (hs : 256 * first + 256 * count ≤ F.mem.length) (hp : 0 < count) (h : F.readAll first count blanks = (e, P)) : e ≤ 256 * count ∧ 2 + liveP P ≤ 256 * count := by
  have hg := Fl.parse_ge (F := F) (base := 256 * first) (size := 256 * count) 2 blanks (by omega)
  have hr := Fl.parse_room hs 2 blanks (by omega)
  rw [liveP_blanks] at hr
  rw [Fl.readAll_eq] at h
  obtain ⟨h1, h2⟩ := Prod.mk.inj h
  subst h2
  refine ⟨?_, by omega⟩
  split at h1 <;> omega
/-- a flash that holds a journal's groups -/
structure Holds (F : Fl) (A h X Y g n : Nat) (P : List PSlot) : Prop where
  pos : 0 < h
  fits : A + 2 * h ≤ F.count
  size : F.mem.length = 256 * F.count
  pick : F.pickHalf A h = (X, Y, g, true)
  read : F.readAll X h blanks = (n, P)
/-- a journal and its flash go together -/
structure Keeps (F : Fl) (A h : Nat) (J : Jn) : Prop where
  holds : Holds F A h J.first J.other J.gen J.next (opened (J.slots.map Slot.p))
  count : J.count = h
  sixteen : J.slots.length = 16
  small : ∀ x ∈ J.slots, x.b.length ≤ 4096
  room : 2 + liveWords J.slots ≤ 256 * h
theorem Holds.halves {F : Fl} {A h X Y g n : Nat} {P : List PSlot} (H : Holds F A h X Y g n P) : (X = A ∧ Y = A + h) ∨ (X = A + h ∧ Y = A) := (pick_facts H.pick).1
theorem Holds.xs {F : Fl} {A h X Y g n : Nat} {P : List PSlot} (H : Holds F A h X Y g n P) : X + h ≤ F.count := by have := H.fits; rcases H.halves with ⟨rfl, rfl⟩ | ⟨rfl, rfl⟩ <;> omega
theorem Holds.ys {F : Fl} {A h X Y g n : Nat} {P : List PSlot} (H : Holds F A h X Y g n P) : Y + h ≤ F.count := by have := H.fits; rcases H.halves with ⟨rfl, rfl⟩ | ⟨rfl, rfl⟩ <;> omega
theorem Holds.apart {F : Fl} {A h X Y g n : Nat} {P : List PSlot} (H : Holds F A h X Y g n P) : X + h ≤ Y ∨ Y + h ≤ X := by rcases H.halves with ⟨rfl, rfl⟩ | ⟨rfl, rfl⟩ <;> omega
theorem Keeps.ok {F : Fl} {A h : Nat} {J : Jn} (K : Keeps F A h J) : J.Ok F := by
  have H := K.holds
  have hsz := H.size
  have hx := H.xs
  have hr := (Fl.readAll_room (F := F) (by omega) H.pos H.read).1
  have hc := K.count
  exact ⟨by have := H.xs; omega, by have := H.ys; omega, by have := H.pos; omega, by rw [hc]; exact hr, by rw [hc]; exact K.room⟩
theorem Out.other {F G : Fl} {Y h : Nat} (o : Out F G Y h) {k : Nat} (hk : k < 256 * Y ∨ 256 * (Y + h) ≤ k) : G.word k = F.word k := o.out k hk
theorem Out.wide {F G : Fl} {a n A N : Nat} (o : Out F G a n) (h1 : A ≤ a) (h2 : a + n ≤ A + N) : Out F G A N := ⟨o.size, o.count, o.armed, fun i hi => o.out i (by omega)⟩
theorem Out.refl (F : Fl) (a n : Nat) : Out F F a n := ⟨rfl, rfl, rfl, fun _ _ => rfl⟩
/-- the other half is torn: what is held stays -/
theorem Holds.torn {F G : Fl} {A h X Y g n : Nat} {P : List PSlot} (H : Holds F A h X Y g n P) (o : Out F G Y h) (hg : (G.word (256 * Y) = F.word (256 * Y) ∧ G.word (256 * Y + 1) = F.word (256 * Y + 1)) ∨ genOk (G.word (256 * Y)) (G.word (256 * Y + 1)) = false) : Holds G A h X Y g n P := by
  have hp := H.pos
  have ha := H.apart
  have hx := H.xs
  have hs := H.size
  refine ⟨hp, by rw [o.count]; exact H.fits, by rw [o.size, o.count]; exact hs, pick_stay H.pick (o.out _ (by omega)) (o.out _ (by omega)) hg, ?_⟩
  rw [Fl.readAll_same (by omega) o.size (fun i hi hi2 => o.out _ (by omega))]
  exact H.read
/-- elsewhere something is written -/
theorem Holds.away {F G : Fl} {A h X Y g n : Nat} {P : List PSlot} (H : Holds F A h X Y g n P) (hs : G.mem.length = F.mem.length) (hc : G.count = F.count) (hw : ∀ i, 256 * A ≤ i → i < 256 * (A + 2 * h) → G.word i = F.word i) : Holds G A h X Y g n P := by
  have hp := H.pos
  have hx := H.halves
  have hf := H.fits
  have hsz := H.size
  refine ⟨hp, by rw [hc]; exact hf, by rw [hs, hc]; exact hsz, pick_stay H.pick (hw _ (by omega) (by omega)) (hw _ (by omega) (by omega)) (Or.inl ⟨hw _ (by omega) (by omega), hw _ (by omega) (by omega)⟩), ?_⟩
  rw [Fl.readAll_same (by omega) hs (fun i hi hi2 => hw _ (by omega) (by omega))]
  exact H.read
theorem Holds.written {F G : Fl} {A h X Y g n : Nat} {P : List PSlot} {e : Nat} {ws : List W4} {n' : Nat} {P' : List PSlot} (H : Holds F A h X Y g n P) (hW : Wrote F G (256 * X + e) ws) (h2 : 2 ≤ e) (he : e + ws.length ≤ 256 * h) (hr : G.readAll X h blanks = (n', P')) : Holds G A h X Y g n' P' := by
  have hp := H.pos
  have ha := H.apart
  exact ⟨hp, by rw [hW.count]; exact H.fits, by rw [hW.size, hW.count]; exact H.size, pick_stay H.pick (hW.out _ (by omega)) (hW.out _ (by omega)) (Or.inl ⟨hW.out _ (by omega), hW.out _ (by omega)⟩), hr⟩
/-- set did it, all of it -/
structure SetDone (F : Fl) (A h : Nat) (J : Jn) (i : Nat) (x : Slot) (G : Fl) (K : Jn) : Prop where
  keeps : Keeps G A h K
  slots : K.slots = J.slots.set i x
  cut : K.cut = false
  off : G.off = false
  out : Out F G A (2 * h)
/-- the power went amid it -/
structure SetCut (F : Fl) (A h : Nat) (J : Jn) (G : Fl) (K : Jn) : Prop where
  holds : ∃ n, Holds G A h J.first J.other J.gen n (opened (J.slots.map Slot.p))
  armed : F.armed = true
  slots : K.slots = J.slots
  cut : K.cut = true
  off : G.off = true
  out : Out F G A (2 * h)
  same : K.count = J.count
theorem set_back {α : Type} (l : List α) (i : Nat) (x : α) (hi : i < l.length) : (l.set i x).set i (l.getD i x) = l := by
  rw [List.set_set, List.getD_eq_getElem?_getD, List.getElem?_eq_getElem hi]
  exact List.set_getElem_self hi
theorem set_does {F : Fl} {A h : Nat} {J : Jn} {i : Nat} {x : Slot} (K : Keeps F A h J) (hc : J.cut = false) (ho : F.off = false) (hi : i < 16) (ht : x.there = true) (hb : x.b.length ≤ 4096) :
    ((J.set F i x).1 = 60 ∧ (J.set F i x).2 = (F, J) ∧ x.live = true ∧ J.fits i x.b.length = false) ∨
    ((J.set F i x).1 = 0 ∧ (x.live = true → J.fits i x.b.length = true) ∧ SetDone F A h J i x (J.set F i x).2.1 (J.set F i x).2.2) ∨
    ((J.set F i x).1 = 7 ∧ (x.live = true → J.fits i x.b.length = true) ∧ SetCut F A h J (J.set F i x).2.1 (J.set F i x).2.2) := by
  by_cases hf : x.live = true ∧ J.fits i x.b.length = false
  · refine Or.inl ⟨?_, ?_, hf.1, hf.2⟩ <;> · unfold Jn.set; rw [if_neg (by simp [hc, ho]), if_pos (by simp [hf.1, hf.2])]
  · have hf' : x.live = true → J.fits i x.b.length = true := fun hl => by
      cases e : J.fits i x.b.length with
      | true => rfl
      | false => exact absurd ⟨hl, e⟩ hf
    refine Or.inr ?_
    have H := K.holds
    have hcnt := K.count
    have h16 := K.sixteen
    have hxs := H.xs
    have hys := H.ys
    have hsz := H.size
    have hhalf := H.halves
    have hbody := x.head_len i hb
    have hOk := K.ok
    have hsm : ∀ y ∈ J.slots.set i x, y.b.length ≤ 4096 := fun y hy => by
      rcases List.mem_or_eq_of_mem_set hy with hy | rfl
      · exact K.small y hy
      · exact hb
    have hroom : 2 + liveWords (J.slots.set i x) ≤ 256 * h := by rw [← hcnt]; exact liveWords_set hOk h16 hi hf'
    have hop : opened ((J.slots.set i x).map Slot.p) = (opened (J.slots.map Slot.p)).set i x.p.open1 := by rw [map_p_set, opened_set]
    by_cases hfit : J.next + (x.words i).length ≤ 256 * J.count
    · rw [Jn.set_fit hc ho hf' hfit]
      rw [Slot.words_eq] at hfit ⊢
      have hlen := recWords_length (x.head i) x.body
      have h2 := Fl.readAll_ge H.pos H.read
      have hfree := (Fl.readAll_free (by omega) H.read (by omega)).2
      obtain ⟨m, hm, hW, hd⟩ := Fl.writes_free (recWords (x.head i) x.body) (F := F) (k := 256 * J.first + J.next) (fun k hk => by rw [Nat.add_assoc]; exact hfree _ (by omega) (by omega)) (by omega) ho
      generalize F.writes (256 * J.first + J.next) (recWords (x.head i) x.body) = R at *
      have hO : Out F R.2 A (2 * h) := hW.toOut (by omega) (by rw [List.length_take]; omega)
      rcases hd with ⟨rfl, h3, h4⟩ | ⟨h3, h4, h5, h6⟩
      · rw [if_pos h3]
        rw [List.take_length] at hW
        refine Or.inl ⟨rfl, hf', ⟨?_, hcnt, by simpa using h16, hsm, hroom⟩, rfl, hc, h4, hO⟩
        have hr := Fl.readAll_more (by omega) H.read (x.head_free i) hbody (by omega) hW
        rw [Slot.take _ _ hi x ht hb, ← hop] at hr
        exact H.written hW h2 (by omega) hr
      · rw [if_neg (by rw [h4]; decide), h4]
        refine Or.inr ⟨rfl, hf', ?_, h6, set_back _ _ _ (by omega), rfl, h5, hO, rfl⟩
        obtain ⟨e', hr⟩ := Fl.readAll_torn (by omega) H.read (x.head_free i) hbody (by omega) h3 hW
        exact ⟨e', H.written hW h2 (by rw [List.length_take]; omega) hr⟩
    · rw [Jn.set_turn rfl hc ho hf' hfit]
      have hT := turn_does (J := { J with slots := J.slots.set i x }) (F := F) hsz (by simp only; omega) hOk.pos (by simpa using h16) hsm (by simp only; omega) ho
      generalize Jn.turn { J with slots := J.slots.set i x } F = R at *
      rcases hT with ⟨h1, h2, h3⟩ | ⟨h1, h2, h3⟩
      · rw [if_pos h1, h2]
        have hE := h3.else_
        have hap := H.apart
        simp only at hE
        rw [hcnt] at hE
        refine Or.inl ⟨rfl, hf', ⟨⟨H.pos, by simp only; rw [hE.count]; exact H.fits, by simp only; rw [hE.size, hE.count]; exact hsz, ?_, ?_⟩, hcnt, by simpa using h16, hsm, hroom⟩, rfl, hc, h3.off, hE.wide (by omega) (by omega)⟩
        · refine pick_swap hhalf ?_ h3.g0 h3.g1
          obtain ⟨_, p1, p2⟩ := pick_facts H.pick
          have hp := H.pos
          simp only
          rw [hE.out (256 * J.first) (by omega), hE.out (256 * J.first + 1) (by omega)]
          exact Or.inr ⟨p1, p2⟩
        · have := h3.read
          simp only at this
          rw [hcnt] at this
          exact this
      · rw [if_neg (by rw [h1]; decide), h1, h2]
        have hE := h3.else_
        simp only at hE
        rw [hcnt] at hE
        exact Or.inr ⟨rfl, hf', ⟨J.next, H.torn hE h3.gen⟩, h3.armed, set_back _ _ _ (by omega), rfl, h3.off, hE.wide (by omega) (by omega), rfl⟩
end Go.Proofs.YtdfgcenbkclpbaaDoor
