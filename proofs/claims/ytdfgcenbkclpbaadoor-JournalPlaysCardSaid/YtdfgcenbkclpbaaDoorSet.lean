/- A group is made another one: what set comes to. -/
import Derived.Test.YtdfgcenbkclpbaaDoorTurnW
namespace Go.Proofs.YtdfgcenbkclpbaaDoor
open Go.RowKit
set_option linter.unusedSimpArgs false
set_option linter.unusedVariables false
/-- the words that are written for a group -/
def Slot.words (i : Nat) (x : Slot) : List W4 := if x.marked then recWords (headOf i 2 0) [] else recWords (headOf i 1 x.b.length) x.b
/-- what set comes to -/
def Jn.set (J : Jn) (F : Fl) (i : Nat) (x : Slot) : Int × Fl × Jn :=
  if J.cut || F.off then (7, F, { J with cut := true }) else
  if x.live && !J.fits i x.b.length then (60, F, J) else
  let J1 := { J with slots := J.slots.set i x }
  let old := J.slots.getD i x
  if J.next + (x.words i).length ≤ 256 * J.count then
    let r := F.writes (256 * J.first + J.next) (x.words i)
    if r.1 = 0 then (0, r.2, { J1 with next := J.next + (x.words i).length })
    else (r.1, r.2, { J1 with next := J.next + (x.words i).length, cut := true, slots := J1.slots.set i old })
  else
    let r := J1.turn F
    if r.1 = 0 then (0, r.2.1, r.2.2) else (r.1, r.2.1, { r.2.2 with cut := true, slots := r.2.2.slots.set i old })
theorem Jn.set_fit {J : Jn} {F : Fl} {i : Nat} {x : Slot} (hc : J.cut = false) (ho : F.off = false) (hf : x.live = true → J.fits i x.b.length = true) (hfit : J.next + (x.words i).length ≤ 256 * J.count) :
    J.set F i x = (if (F.writes (256 * J.first + J.next) (x.words i)).1 = 0 then (0, (F.writes (256 * J.first + J.next) (x.words i)).2, { J with slots := J.slots.set i x, next := J.next + (x.words i).length })
      else ((F.writes (256 * J.first + J.next) (x.words i)).1, (F.writes (256 * J.first + J.next) (x.words i)).2, { J with slots := (J.slots.set i x).set i (J.slots.getD i x), next := J.next + (x.words i).length, cut := true })) := by
  unfold Jn.set
  rw [if_neg (by simp [hc, ho]), if_neg (by cases hx : x.live <;> simp; exact hf hx), if_pos hfit]
theorem Jn.set_turn {J J1 : Jn} {F : Fl} {i : Nat} {x : Slot} (h1 : J1 = { J with slots := J.slots.set i x }) (hc : J.cut = false) (ho : F.off = false) (hf : x.live = true → J.fits i x.b.length = true) (hfit : ¬ J.next + (x.words i).length ≤ 256 * J.count) :
    J.set F i x = (if (J1.turn F).1 = 0 then (0, (J1.turn F).2.1, (J1.turn F).2.2)
      else ((J1.turn F).1, (J1.turn F).2.1, { (J1.turn F).2.2 with slots := (J1.turn F).2.2.slots.set i (J.slots.getD i x), cut := true })) := by
  subst h1
  unfold Jn.set
  rw [if_neg (by simp [hc, ho]), if_neg (by cases hx : x.live <;> simp; exact hf hx), if_neg hfit]
end Go.Proofs.YtdfgcenbkclpbaaDoor
