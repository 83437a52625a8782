/- Two journals in one flash. -/
import Derived.Test.YtdfgcenbkclpbaaDoorTries
import Derived.Test.YtdfgcenbkclpbaaDoorOpenOps
namespace Go.Proofs.YtdfgcenbkclpbaaDoor
open Go.RowKit
set_option linter.unusedSimpArgs false
set_option linter.unusedVariables false
/-- no byte of the journal's groups lies in block b -/
def Shuns (J : Jn) (b : Nat) : Prop := ∀ z ∈ J.slots, z.b ≠ [] → ∀ a, z.a = some a → a.block ≠ b
theorem Shuns.blank {J : Jn} {b : Nat} (h : J.slots.map Slot.p = blanks) : Shuns J b := fun z hz hb => by
  have h1 : z.p ∈ J.slots.map Slot.p := List.mem_map_of_mem hz
  rw [h] at h1
  have h2 : ∀ p ∈ blanks, p.b = [] := by decide
  exact absurd (h2 _ h1) hb
theorem Shuns.fresh {w : World} {J K : Jn} {b : Nat} (h : Shuns J b) (hf : FreshOr w J K) (hb : b < w.heap.size) : Shuns K b := fun z hz hn a ha => by
  rcases hf z hz a ha with ⟨u, hu, h1, h2⟩ | h1
  · exact h u hu (by rw [h2]; exact hn) a h1
  · omega
theorem JnAt.shun {w w' : World} {y f s x : Nat} {K : Jn} (h : JnAt w y f s K) (hx : Shuns K x) (hne : y ≠ x) (ht : Touch [f, s, x] w w') : JnAt w' y f s K :=
  ⟨h.own.touch ht (by simp; exact ⟨h.apart.1, h.apart.2, hne⟩), h.sixteen, h.apart, h.few, h.gen, fun z hz => ⟨by
    by_cases hb : z.b = []
    · rw [hb]; exact .nil _ _
    · exact (h.slots z hz).1.touch ht (fun a ha => by
        obtain ⟨_, h2, h3⟩ := (h.slots z hz).2.2.2 a ha
        have := hx z hz hb a ha
        simp; exact ⟨h2, h3, this⟩), (h.slots z hz).2⟩⟩
theorem Keeps.away {F G : Fl} {A h B n : Nat} {J : Jn} (K : Keeps F A h J) (o : Out F G B n) (hd : A + 2 * h ≤ B ∨ B + n ≤ A) : Keeps G A h J :=
  ⟨K.holds.away o.size o.count (fun i h1 h2 => o.out i (by omega)), K.count, K.sixteen, K.small, K.room⟩
/-- THE GAME of two journals x, y over flash f, s; the document's mx, my tell the same groups -/
structure Duo (w : World) (f s x y mx gx my gy : Nat) (J K : Jn) (F : Fl) : Prop where
  jx : JnAt w x f s J
  jy : JnAt w y f s K
  flash : FlashAt w f s F
  rx : RefAt w mx gx (J.slots.map Slot.p) 2
  ry : RefAt w my gy (K.slots.map Slot.p) 3
  kx : Keeps F 0 1 J
  ky : Keeps F 3 1 K
  cx : J.cut = false
  cy : K.cut = false
  off : F.off = false
  armed : F.armed = false
  cnt : F.count = 6
  ne : x ≠ y
  dx : (mx ≠ f ∧ mx ≠ s ∧ mx ≠ x ∧ mx ≠ y) ∧ (gx ≠ f ∧ gx ≠ s ∧ gx ≠ x ∧ gx ≠ y)
  dy : (my ≠ f ∧ my ≠ s ∧ my ≠ x ∧ my ≠ y) ∧ (gy ≠ f ∧ gy ≠ s ∧ gy ≠ x ∧ gy ≠ y)
  fx : Shuns J y
  fy : Shuns K x
theorem Duo.to {w w' : World} {f s x y mx gx my gy : Nat} {J K : Jn} {F : Fl} (h : Duo w f s x y mx gx my gy J K F) (t : Touch [] w w') : Duo w' f s x y mx gx my gy J K F :=
  ⟨h.jx.to t, h.jy.to t, h.flash.to t, h.rx.to t, h.ry.to t, h.kx, h.ky, h.cx, h.cy, h.off, h.armed, h.cnt, h.ne, h.dx, h.dy, h.fx, h.fy⟩
theorem Duo.nextX {w w' : World} {f s x y mx gx my gy m g : Nat} {J K N : Jn} {F G : Fl} {P : List PSlot} (h : Duo w f s x y mx gx my gy J K F) (hG : FlashAt w' f s G) (hN : JnAt w' x f s N) (t : Touch [f, s, x] w w') (hf : FreshOr w J N) (hd : Did F 0 1 P G N)
    (hR : RefAt w m g P 2) (hm : (m ≠ f ∧ m ≠ s ∧ m ≠ x ∧ m ≠ y) ∧ (g ≠ f ∧ g ≠ s ∧ g ≠ x ∧ g ≠ y)) : Duo w' f s x y m g my gy N K G := by
  obtain ⟨⟨a1, a2, a3, a4⟩, b1, b2, b3, b4⟩ := h.dy
  obtain ⟨⟨c1, c2, c3, c4⟩, d1, d2, d3, d4⟩ := hm
  have q1 := h.jy.shun h.fy (fun e => h.ne e.symm) t
  have q2 := hR.to t (by simp; exact ⟨⟨c1, c2, c3⟩, d1, d2, d3⟩)
  have q3 := h.ry.to t (by simp; exact ⟨⟨a1, a2, a3⟩, b1, b2, b3⟩)
  have q4 := h.ky.away hd.out (by omega)
  have q5 := h.fx.fresh hf h.jy.lt
  exact { jx := hN, jy := q1, flash := hG, rx := by rw [hd.slots]; exact q2, ry := q3, kx := hd.keeps, ky := q4, cx := hd.cut, cy := h.cy, off := hd.off, armed := hd.out.armed.trans h.armed, cnt := hd.out.count.trans h.cnt, ne := h.ne, dx := ⟨⟨c1, c2, c3, c4⟩, d1, d2, d3, d4⟩, dy := h.dy, fx := q5, fy := h.fy }
theorem Duo.nextY {w w' : World} {f s x y mx gx my gy m g : Nat} {J K N : Jn} {F G : Fl} {P : List PSlot} (h : Duo w f s x y mx gx my gy J K F) (hG : FlashAt w' f s G) (hN : JnAt w' y f s N) (t : Touch [f, s, y] w w') (hf : FreshOr w K N) (hd : Did F 3 1 P G N)
    (hR : RefAt w m g P 3) (hm : (m ≠ f ∧ m ≠ s ∧ m ≠ x ∧ m ≠ y) ∧ (g ≠ f ∧ g ≠ s ∧ g ≠ x ∧ g ≠ y)) : Duo w' f s x y mx gx m g J N G := by
  obtain ⟨⟨a1, a2, a3, a4⟩, b1, b2, b3, b4⟩ := h.dx
  obtain ⟨⟨c1, c2, c3, c4⟩, d1, d2, d3, d4⟩ := hm
  have q1 := h.jx.shun h.fx h.ne t
  have q2 := hR.to t (by simp; exact ⟨⟨c1, c2, c4⟩, d1, d2, d4⟩)
  have q3 := h.rx.to t (by simp; exact ⟨⟨a1, a2, a4⟩, b1, b2, b4⟩)
  have q4 := h.kx.away hd.out (by omega)
  have q5 := h.fy.fresh hf h.jx.lt
  exact { jx := q1, jy := hN, flash := hG, rx := q3, ry := by rw [hd.slots]; exact q2, kx := q4, ky := hd.keeps, cx := h.cx, cy := hd.cut, off := hd.off, armed := hd.out.armed.trans h.armed, cnt := hd.out.count.trans h.cnt, ne := h.ne, dx := h.dx, dy := ⟨⟨c1, c2, c3, c4⟩, d1, d2, d3, d4⟩, fx := h.fx, fy := q5 }
theorem Duo.sameX {w : World} {f s x y mx gx my gy : Nat} {J K : Jn} {F : Fl} (h : Duo w f s x y mx gx my gy J K F) :
    Calls Tryd.prog 19 #[ptr x, ptr mx] w fun e w' => e = .returned (.bool true) ∧ Touch [] w w' := by
  refine (same_any w x f s mx gx 2 J _ h.jx h.rx).mono ?_
  rintro e w' ⟨rfl, t⟩
  rw [agreeP_self]
  exact ⟨rfl, t⟩
theorem Duo.sameY {w : World} {f s x y mx gx my gy : Nat} {J K : Jn} {F : Fl} (h : Duo w f s x y mx gx my gy J K F) :
    Calls Tryd.prog 19 #[ptr y, ptr my] w fun e w' => e = .returned (.bool true) ∧ Touch [] w w' := by
  refine (same_any w y f s my gy 3 K _ h.jy h.ry).mono ?_
  rintro e w' ⟨rfl, t⟩
  rw [agreeP_self]
  exact ⟨rfl, t⟩
theorem wp_load_op {ops : Array Oper} {rest : List Oper} {op : Oper} {a : Act} {w : World} {Q : Exit → Act → World → Prop} {x : Operand} {b o : Nat} (y : OpP) (hc : w.rangeAt b o y.cells) (hgd : op.guard = none) (ho : op.op = .load 45 x)
    (hx : a.eval x = .pointer (some ⟨b, o, none⟩)) (h : wpList Tryd.prog ops Q rest (a.put op.dst y.val) w) : wpList Tryd.prog ops Q (op :: rest) a w :=
  wpList_load_mid hgd 45 x ho b o hx y.cells _ hc Tryd.underlying45 rfl (by kernel_rfl) h
end Go.Proofs.YtdfgcenbkclpbaaDoor
