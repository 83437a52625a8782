/- All groups that are there are written to the other half. -/
import Derived.Test.YtdfgcenbkclpbaaDoorFits
namespace Go.Proofs.YtdfgcenbkclpbaaDoor
open Go.RowKit
set_option linter.unusedSimpArgs false
set_option linter.unusedVariables false
def Slot.live (x : Slot) : Bool := x.there && !x.marked
/-- the records of the groups that live are written one behind the other: the answer, the flash, where the next one goes -/
def Fl.writeLive (F : Fl) (base at_ : Nat) : List Slot → Nat → Int × Fl × Nat
  | [], _ => (0, F, at_)
  | x :: r, k =>
    if x.live then
      if (F.writes (base + at_) (recWords (headOf k 1 x.b.length) x.b)).1 = 0 then (F.writes (base + at_) (recWords (headOf k 1 x.b.length) x.b)).2.writeLive base (at_ + (2 + (x.b.length + 3) / 4)) r (k + 1)
      else ((F.writes (base + at_) (recWords (headOf k 1 x.b.length) x.b)).1, (F.writes (base + at_) (recWords (headOf k 1 x.b.length) x.b)).2, at_)
    else F.writeLive base at_ r (k + 1)
/-- how many words the groups that live take -/
def liveWords : List Slot → Nat
  | [] => 0
  | x :: r => (if x.live then 2 + (x.b.length + 3) / 4 else 0) + liveWords r
def nextGen (g : Nat) : Nat := if (g + 1) % 4294967296 = 4294967295 then 1 else (g + 1) % 4294967296
/-- what turn comes to -/
def Jn.turn (J : Jn) (F : Fl) : Int × Fl × Jn :=
  if (F.eraseAll J.other J.count).1 ≠ 0 then ((F.eraseAll J.other J.count).1, (F.eraseAll J.other J.count).2, J) else
  let L := (F.eraseAll J.other J.count).2.writeLive (256 * J.other) 2 J.slots 0
  if L.1 ≠ 0 then (L.1, L.2.1, J) else
  let A := L.2.1.write (256 * J.other) (W4.ofNum (nextGen J.gen))
  if A.1 ≠ 0 then (A.1, A.2, J) else
  let B := A.2.write (256 * J.other + 1) (W4.ofNum (4294967295 - nextGen J.gen))
  if B.1 ≠ 0 then (B.1, B.2, J) else
  (0, B.2, { J with first := J.other, other := J.first, gen := nextGen J.gen, next := L.2.2 })
theorem Fl.writes_off {F : Fl} {k : Nat} {ws : List W4} (ho : F.off = false) (h : (F.writes k ws).1 = 0) : (F.writes k ws).2.off = false := by
  induction ws generalizing F k with
  | nil => exact ho
  | cons y r ih =>
    rw [Fl.writes] at h ⊢
    by_cases hz : (F.write k y).1 = 0
    · rw [if_pos hz] at h ⊢
      exact ih (Fl.write_off ho (by rw [hz]; decide)) h
    · rw [if_neg hz] at h; exact absurd h hz
theorem Fl.writes_count (F : Fl) (k : Nat) (ws : List W4) : (F.writes k ws).2.count = F.count := by
  induction ws generalizing F k with
  | nil => rfl
  | cons y r ih =>
    rw [Fl.writes]
    split
    · rw [ih, Fl.write_count]
    · exact Fl.write_count F k y
theorem Fl.eraseAll_count (F : Fl) (i n : Nat) : (F.eraseAll i n).2.count = F.count := by
  induction n generalizing F i with
  | zero => rfl
  | succ n ih =>
    rw [Fl.eraseAll]
    split
    · rw [ih, Fl.erase_count]
    · exact Fl.erase_count F i
theorem Fl.eraseAll_off {F : Fl} {i n : Nat} (ho : F.off = false) (h : (F.eraseAll i n).1 = 0) : (F.eraseAll i n).2.off = false := by
  induction n generalizing F i with
  | zero => exact ho
  | succ n ih =>
    rw [Fl.eraseAll] at h ⊢
    by_cases hz : (F.erase i).1 = 0
    · rw [if_pos hz] at h ⊢
      exact ih (Fl.erase_off ho hz) h
    · rw [if_neg hz] at h; exact absurd h hz
theorem JnAt.cells8 {w : World} {j f s : Nat} {J : Jn} (h : JnAt w j f s J) : w.rangeAt j 8 (slotCells J.slots) := by
  have := h.own.range (i := 8) (cs := slotCells J.slots) (fun k v hv => by
    have hk := (List.getElem?_eq_some_iff.1 hv).1
    unfold Jn.cells
    rw [List.append_assoc, List.getElem?_append_right (by simp), List.getElem?_append_left (by simp; omega)]
    simpa using hv)
  rwa [Nat.zero_add] at this
theorem JnAt.half0 {w : World} {j f s : Nat} {J : Jn} (h : JnAt w j f s J) : w.rangeAt j 0 [ptr f, .int .i64 J.first, .int .i64 J.count] := by
  have := h.own.range (i := 0) (cs := [ptr f, .int .i64 J.first, .int .i64 J.count]) (fun k v hv => by
    match k, hv with
    | 0, hv | 1, hv | 2, hv => simpa [Jn.cells] using hv
    | _ + 3, hv => simp at hv)
  rwa [Nat.zero_add] at this
theorem JnAt.half1 {w : World} {j f s : Nat} {J : Jn} (h : JnAt w j f s J) : w.rangeAt j 3 [ptr f, .int .i64 J.other, .int .i64 J.count] := by
  have := h.own.range (i := 3) (cs := [ptr f, .int .i64 J.other, .int .i64 J.count]) (fun k v hv => by
    match k, hv with
    | 0, hv | 1, hv | 2, hv => simpa [Jn.cells] using hv
    | _ + 3, hv => simp at hv)
  rwa [Nat.zero_add] at this
end Go.Proofs.YtdfgcenbkclpbaaDoor
