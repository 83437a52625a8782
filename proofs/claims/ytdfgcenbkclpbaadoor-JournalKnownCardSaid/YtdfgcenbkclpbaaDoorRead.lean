/- read, walked. -/
import Derived.Test.YtdfgcenbkclpbaaDoorRecs
namespace Go.Proofs.YtdfgcenbkclpbaaDoor
open Go.RowKit
set_option linter.unusedSimpArgs false
set_option linter.unusedVariables false
set_option maxRecDepth 100000 in
theorem records_mk (w : World) (f first count : Nat) : Calls Tryd.prog 56 #[halfV f first count] w fun e w' => e = .returned (.func (.func 66) #[] #[ptr w.heap.size]) ∧ OwnAt w' w.heap.size 0 [ptr f, .int .i64 first, .int .i64 count] ∧ Touch [] w w' := by
  have hO := OwnAt.new w #[ptr f, .int .i64 first, .int .i64 count] 73
  have hT := Touch.one w (.cells #[ptr f, .int .i64 first, .int .i64 count] 73)
  go_enter Tryd.func56, Tryd.ntmps56
  go_wp2_with fail
  go_ret
  exact ⟨rfl, hO, hT⟩
theorem JnAt.c1 {w : World} {j f s : Nat} {J : Jn} (h : JnAt w j f s J) : w.cell? ⟨j, 1, none⟩ = some (.int .i64 J.first) := h.own.get 1 (by rw [Jn.cells_length]; omega)
/-- what read comes to -/
def Fl.readAll (F : Fl) (first count : Nat) (sl : List PSlot) : Nat × List PSlot :=
  let r := F.readFrom (256 * first) (256 * count) (256 * count) 2 sl
  (if F.freeFrom (256 * first) (256 * count) r.1 then r.1 else 256 * count, r.2)
/-- the same journal, but for its slots and the next record -/
structure Jn.Same (J K : Jn) : Prop where
  first : J.first = K.first
  other : J.other = K.other
  count : J.count = K.count
  gen : J.gen = K.gen
  cut : J.cut = K.cut
/-- what else stands while records are read -/
structure ReadFrame (w0 : World) (j f s cb bx l D B : Nat) (F : Fl) (first count : Nat) (rc : Loop) (W : World) : Prop where
  flash : FlashAt W f s F
  half : OwnAt W cb 0 [ptr f, .int .i64 first, .int .i64 count]
  box : OwnAt W bx 0 [ptr j]
  glob : W.rangeAt 0 0 W4.free.cells
  touch : Touch [j] w0 W
  size : B ≤ W.heap.size
  loop : W.heap[l]? = some (.loop rc)
  defer : W.heap[D]? = some (.deferred (some []))
theorem heap_to {S : List Nat} {w w' : World} {k : Nat} {o : Obj} (h : w.heap[k]? = some o) (ht : Touch S w w') (hn : k ∉ S) : w'.heap[k]? = some o := by
  rw [ht.block k (Array.getElem?_eq_some_iff.1 h).1 hn]; exact h
theorem glob_to {S : List Nat} {w w' : World} (h : w.rangeAt 0 0 W4.free.cells) (ht : Touch S w w') (hn : 0 ∉ S) : w'.rangeAt 0 0 W4.free.cells := fun k v hv => ht.cell (h k v hv) hn
theorem ReadFrame.to {w0 : World} {j f s cb bx l D B : Nat} {F : Fl} {first count : Nat} {rc : Loop} {W W' : World} {S : List Nat} (h : ReadFrame w0 j f s cb bx l D B F first count rc W) (ht : Touch S W W') (hn : f ∉ S ∧ s ∉ S ∧ cb ∉ S ∧ bx ∉ S ∧ 0 ∉ S ∧ l ∉ S ∧ D ∉ S) (hs : ∀ k ∈ S, k = j ∨ w0.heap.size ≤ k) : ReadFrame w0 j f s cb bx l D B F first count rc W' :=
  ⟨h.flash.touch ht hn.1 hn.2.1, h.half.touch ht hn.2.2.1, h.box.touch ht hn.2.2.2.1, glob_to h.glob ht hn.2.2.2.2.1, h.touch.to ht (fun k hk => by simpa using hs k hk), Nat.le_trans h.size ht.size, heap_to h.loop ht hn.2.2.2.2.2.1, heap_to h.defer ht hn.2.2.2.2.2.2⟩
theorem Touch.putObj (W : World) (l : Nat) (o : Obj) : Touch [l] W (W.putObj l o) :=
  ⟨rfl, rfl, rfl, by simp, fun k _ hk => World.putObj_heap_other (by simpa using hk)⟩
def ReadMid (w0 : World) (j f s cb bx l D B : Nat) (F : Fl) (J0 : Jn) (rc : Loop) (at_ : Nat) (W : World) : Prop :=
  ∃ (Jc : Jn) (n : Nat), JnAt W j f s Jc ∧ Jc.Same J0 ∧ Jc.next = at_ ∧ 2 ≤ at_ ∧ at_ ≤ 256 * J0.count ∧
    F.readFrom (256 * J0.first) (256 * J0.count) (256 * J0.count) 2 (J0.slots.map Slot.p) = F.readFrom (256 * J0.first) (256 * J0.count) n at_ (Jc.slots.map Slot.p) ∧ 256 * J0.count ≤ n + at_ ∧
    ReadFrame w0 j f s cb bx l D B F J0.first J0.count rc W
def ReadOut (w0 : World) (j f s cb bx l D B : Nat) (F : Fl) (J0 : Jn) (rc : Loop) (W : World) : Prop :=
  ∃ (Jc : Jn), JnAt W j f s Jc ∧ Jc.Same J0 ∧ Jc.next = 256 * J0.count ∧
    F.readFrom (256 * J0.first) (256 * J0.count) (256 * J0.count) 2 (J0.slots.map Slot.p) = (256 * J0.count, Jc.slots.map Slot.p) ∧
    ReadFrame w0 j f s cb bx l D B F J0.first J0.count rc W
theorem Fl.readFrom_end (F : Fl) (base size n at_ : Nat) (sl : List PSlot) (h : size ≤ at_ ∨ F.word (base + at_) = W4.free) : F.readFrom base size n at_ sl = (at_, sl) := by
  cases n with
  | zero => rfl
  | succ n => rw [Fl.readFrom, if_pos h]
theorem ReadMid.to {w0 : World} {j f s cb bx l D B : Nat} {F : Fl} {J0 : Jn} {rc : Loop} {at_ : Nat} {W W' : World} (h : ReadMid w0 j f s cb bx l D B F J0 rc at_ W) (ht : Touch [] W W') : ReadMid w0 j f s cb bx l D B F J0 rc at_ W' := by
  obtain ⟨Jc, n, h1, h2, h3, h4, h5, h6, h7, h8⟩ := h
  exact ⟨Jc, n, h1.to ht, h2, h3, h4, h5, h6, h7, h8.to ht (by simp) (by simp)⟩
theorem zip_two (x y : Value) (T : Array Value) (a b : Nat) : ((#[a, b] : Array Tmp).zip #[x, y]).foldl (fun tmps (t, v) => tmps.setIfInBounds t v) T = (T.setIfInBounds a x).setIfInBounds b y := by simp
theorem Fl.freeFrom_self (F : Fl) (base at_ : Nat) : F.freeFrom base at_ at_ = true := by simp [Fl.freeFrom]
theorem Fl.freeFrom_succ (F : Fl) (base i at_ : Nat) (h : at_ ≤ i) (hm : base + i < F.mem.length) : F.freeFrom base (i + 1) at_ = (F.freeFrom base i at_ && decide (F.word (base + i) = W4.free)) := by
  unfold Fl.freeFrom Fl.word
  have h1 : i - at_ < (F.mem.drop (base + at_)).length := by rw [List.length_drop]; omega
  rw [show i + 1 - at_ = (i - at_) + 1 by omega, List.take_succ_eq_append_getElem h1, List.all_append, List.getElem_drop, List.getD_eq_getElem?_getD]
  have h2 : F.mem[base + i]? = some (F.mem[base + at_ + (i - at_)]'(by simp at h1; omega)) := by
    rw [List.getElem?_eq_getElem hm]; congr 2; omega
  rw [h2]
  simp [beq_iff_eq, Bool.beq_eq_decide_eq]
/-- is the flag of the end of read: a word behind the next record that is not free -/
def Fl.tailNext (F : Fl) (base size at_ i : Nat) : Nat := if F.freeFrom base i at_ then at_ else size
theorem JnAt.gap {w w' : World} {j f s : Nat} {J : Jn} (h : JnAt w j f s J) (v : Value) (ht : Touch [] (w.setCell ⟨j, 7, none⟩ v) w') (n : Nat) : JnAt (w'.setCell ⟨j, 7, none⟩ (.int .i64 n)) j f s { J with next := n } := by
  have hl := Jn.cells_length f J
  have o := ((h.own.set0 7 v (by rw [hl]; omega)).to ht).set0 7 (.int .i64 n) (by rw [List.length_set, hl]; omega)
  rw [List.set_set] at o
  refine ⟨?_, h.sixteen, h.apart, h.few, h.gen, fun x hx => ⟨?_, (h.slots x hx).2⟩⟩
  · have e : (J.cells f).set 7 (.int .i64 n) = ({ J with next := n } : Jn).cells f := by
      unfold Jn.cells
      rw [List.append_assoc, List.set_append_left _ _ (by simp), ← List.append_assoc]
      rfl
    rw [e] at o; exact o
  · exact (h.slots x hx).1.touch (S := [j]) ((((Touch.refl [j] w).setCell (by simp) _).trans (ht.mono (by simp))).setCell (by simp) _) (fun y hy => by simpa using ((h.slots x hx).2.2.2 y hy).1)
theorem JnAt.gapHalf {w w' : World} {j f s : Nat} {J : Jn} (h : JnAt w j f s J) (v : Value) (ht : Touch [] (w.setCell ⟨j, 7, none⟩ v) w') : w'.cell? ⟨j, 0, none⟩ = some (ptr f) ∧ w'.cell? ⟨j, 1, none⟩ = some (.int .i64 J.first) ∧ w'.cell? ⟨j, 2, none⟩ = some (.int .i64 J.count) ∧ w'.cell? ⟨j, 7, none⟩ = some v ∧ w'.frozen? ⟨j, 7, none⟩ = false := by
  have hl := Jn.cells_length f J
  have o := (h.own.set0 7 v (by rw [hl]; omega)).to ht
  have f7 := o.free 7 (by rw [List.length_set, hl]; omega)
  rw [Nat.zero_add] at f7
  exact ⟨o.get 0 (by rw [List.length_set, hl]; omega), o.get 1 (by rw [List.length_set, hl]; omega), o.get 2 (by rw [List.length_set, hl]; omega), o.get 7 (by rw [List.length_set, hl]; omega), f7⟩
/-! a block that holds no cells is turned -/
theorem cell_mute {w : World} {l : Nat} {o o' : Obj} {a : Addr} {v : Value} (hl : w.heap[l]? = some o) (hc : o.isCells = false) (h : w.cell? a = some v) : (w.putObj l o').cell? a = some v :=
  cell_kept h (grownBy_putObj' w l o') (fun r e => by cases e; exact ⟨o, hl, hc⟩)
theorem OwnAt.mute {w : World} {l b off : Nat} {o o' : Obj} {xs : List Value} (h : OwnAt w b off xs) (hl : w.heap[l]? = some o) (hc : o.isCells = false) : OwnAt (w.putObj l o') b off xs :=
  ⟨fun j v hv => cell_mute hl hc (h.cells j v hv), fun j hj => (frozen_kept (h.get j hj) (grownBy_putObj' w l o') (fun r e => by cases e; exact ⟨o, hl, hc⟩)).trans (h.free j hj)⟩
theorem SliceAt.mute {w : World} {l : Nat} {o o' : Obj} {A : Option Addr} {xs : List Value} (h : SliceAt w A xs) (hl : w.heap[l]? = some o) (hc : o.isCells = false) : SliceAt (w.putObj l o') A xs :=
  h.keep fun a v hv => cell_mute hl hc hv
theorem FlashAt.mute {w : World} {l f s : Nat} {o o' : Obj} {F : Fl} (h : FlashAt w f s F) (hl : w.heap[l]? = some o) (hc : o.isCells = false) : FlashAt (w.putObj l o') f s F :=
  ⟨h.size, h.few, h.pos, h.apart, h.head.mute hl hc, h.mem.mute hl hc⟩
theorem JnAt.mute {w : World} {l j f s : Nat} {o o' : Obj} {J : Jn} (h : JnAt w j f s J) (hl : w.heap[l]? = some o) (hc : o.isCells = false) : JnAt (w.putObj l o') j f s J :=
  ⟨h.own.mute hl hc, h.sixteen, h.apart, h.few, h.gen, fun x hx => ⟨(h.slots x hx).1.mute hl hc, (h.slots x hx).2⟩⟩
theorem ReadFrame.mute {w0 : World} {j f s cb bx l D B : Nat} {F : Fl} {first count : Nat} {rc : Loop} {W : World} (h : ReadFrame w0 j f s cb bx l D B F first count rc W) (rc' : Loop) (hl : w0.heap.size ≤ l) (hD : D ≠ l) : ReadFrame w0 j f s cb bx l D B F first count rc' (W.putObj l (.loop rc')) :=
  ⟨h.flash.mute h.loop rfl, h.half.mute h.loop rfl, h.box.mute h.loop rfl, fun k v hv => cell_mute h.loop rfl (h.glob k v hv), h.touch.to (Touch.putObj W l _) (fun k hk => by rw [List.mem_singleton] at hk; exact Or.inr (by omega)), by rw [World.putObj_size]; exact h.size,
    World.putObj_heap_same (Array.getElem?_eq_some_iff.1 h.loop).1, (World.putObj_heap_other hD).trans h.defer⟩
def rcDone (rc : Loop) : Loop := { rc with state := .done, pending := some .ret }
def rcBusy (rc : Loop) : Loop := { rc with state := .busy }
theorem endRound_go {P : Program} {W : World} {l : Nat} {rc : Loop} (hst : rc.state = .ready) (hpe : rc.pending = none) (h : W.heap[l]? = some (.loop (rcBusy rc))) : (Instr.endRound l none).run P W = .ok (.bool true) (W.putObj l (.loop rc)) := by
  rw [run_endRound (P := P) none h]
  cases rc
  simp only at hst hpe
  subst hst; subst hpe
  rfl
theorem endRound_stop {P : Program} {W : World} {l : Nat} {rc : Loop} (h : W.heap[l]? = some (.loop (rcBusy rc))) : (Instr.endRound l (some .ret)).run P W = .ok (.bool false) (W.putObj l (.loop (rcDone rc))) := by
  rw [run_endRound (P := P) (some .ret) h]
  rfl
theorem map_p_set (l : List Slot) (i : Nat) (x : Slot) : (l.set i x).map Slot.p = (l.map Slot.p).set i x.p := by rw [List.map_set]
set_option maxRecDepth 100000 in
set_option maxHeartbeats 3200000 in
theorem read_any (w : World) (j f s : Nat) (J : Jn) (F : Fl) (h : JnAt w j f s J) (hF : FlashAt w f s F) (ho : F.off = false) (hg : w.rangeAt 0 0 W4.free.cells) (hz : j ≠ 0 ∧ f ≠ 0 ∧ s ≠ 0) (hc : J.first + J.count ≤ F.count) (hp : 0 < J.count) (hn : J.next = 2) :
    Calls Tryd.prog 40 #[ptr j] w fun e w' => e = .returned (.tuple #[]) ∧ (∃ K, JnAt w' j f s K ∧ K.Same J ∧ (K.next, K.slots.map Slot.p) = F.readAll J.first J.count (J.slots.map Slot.p)) ∧ FlashAt w' f s F ∧ Touch [j] w w' := by
  refine calls_marks Tryd.func40 rfl ?_
  simp only [Tryd.ntmps40, List.size_toArray, List.length_cons, List.length_nil, Nat.reduceAdd, Nat.reduceSub, Array.replicate_succ, Array.replicate_zero, List.push_toArray, List.append_toArray, List.nil_append, List.cons_append]
  have t0 := Touch.one w (.cells #[ptr j] 31)
  have hB := OwnAt.new w #[ptr j] 31
  have h1 := h.to t0
  have k0 := h1.c0
  have k1 := h1.c1
  have k2 := h1.c2
  go_wp2_with fail
  refine (records_mk _ f J.first J.count).mono ?_
  rintro e w2 ⟨rfl, hC, t2⟩
  have h2 := h1.to t2
  have hF2 := (hF.to t0).to t2
  have hB2 := hB.to t2
  have hg2 := glob_to (glob_to hg t0 (by simp)) t2 (by simp)
  have T2 := t0.trans t2
  rw [show (w.alloc (.cells #[ptr j] 31)).heap.size = w.heap.size + 1 by simp] at hC ⊢
  have hz2 : w.heap.size + 1 < w2.heap.size := hC.lt (by simp)
  have hjl := h.lt
  have hfl := hF.flt
  have hsl := hF.slt
  have hjf := h.apart.1
  have hjs := h.apart.2
  go_wp2_with fail
  refine wp_range_at (gf := 66) (lb := #[ptr (w.heap.size + 1)]) rfl ?_ ?_
  · intro args W
    simp [go_sem]
  intro rc W1 hst hpe htm hps has hbd tW hl hd hW1
  have H0 : ReadMid w j f s (w.heap.size + 1) w.heap.size (w2.heap.size + 1) w2.heap.size W1.heap.size F J rc 2 W1 :=
    ⟨J, 256 * J.count, h2.to tW, ⟨rfl, rfl, rfl, rfl, rfl⟩, hn, by omega, by omega, rfl, by omega, hF2.to tW, hC.to tW, hB2.to tW, glob_to hg2 tW (by simp), (T2.trans tW).mono (by simp), Nat.le_refl _, hl, hd⟩
  have hrec := records_any W1 (w.heap.size + 1) f s (w2.heap.size + 1) F J.first J.count (ReadMid w j f s (w.heap.size + 1) w.heap.size (w2.heap.size + 1) w2.heap.size W1.heap.size F J rc)
    (ReadOut w j f s (w.heap.size + 1) w.heap.size (w2.heap.size + 1) w2.heap.size W1.heap.size F J (rcDone rc)) ?_ H0 ho hc hp
  · refine CallsIn.mono hrec ?_
    rintro e W2 ⟨rfl, ⟨at_, hm, hle, hend⟩ | hx⟩
    · obtain ⟨Jc, n, a1, a2, a3, a4, a5, a6, a7, a8⟩ := hm
      rw [F.readFrom_end _ _ n at_ _ hend] at a6
      have hel := run_endLoop (P := Tryd.prog) a8.loop (by rw [hst]; simp)
      rw [hpe] at hel
      refine ⟨none, _, hel, ?_⟩
      have hJb := a1.mute (o' := .loop { rc with state := .exhausted }) a8.loop rfl
      have hFb := a8.mute { rc with state := .exhausted } (by omega) (by omega)
      have HS := Lib.hid a6
      clear hel a6
      rw [hpe] at hJb hFb
      generalize W2.putObj (w2.heap.size + 1) _ = Wb at *
      generalize ({ state := .exhausted, pending := none, fn := rc.fn, tmps := rc.tmps, params := rc.params, assign := rc.assign, body := rc.body, defers := rc.defers } : Loop) = rcE at hFb
      clear hl hd H0 htm has hbd hps a8 a1
      have b0 : Wb.cell? ⟨w.heap.size, 0, none⟩ = some (ptr j) := hFb.box.get 0 (by simp)
      have k7 := hJb.c7
      rw [a3] at k7
      simp only [List.cons_append, List.nil_append]
      go_wp2_with fail
      clear b0 k7
      go_loopw [5] (fun v wr => ∃ (i : Nat) (K : Jn), v = .int .i64 i ∧ at_ ≤ i ∧ i ≤ 256 * J.count ∧ JnAt wr j f s K ∧ K.Same J ∧ K.slots = Jc.slots ∧ K.next = F.tailNext (256 * J.first) (256 * J.count) at_ i ∧ ReadFrame w j f s (w.heap.size + 1) w.heap.size (w2.heap.size + 1) w2.heap.size W1.heap.size F J.first J.count rcE wr) (fun v _ => 256 * J.count - (intOf v).toNat)
      case atStart => exact ⟨at_, Jc, rfl, by omega, by omega, hJb, a2, rfl, by unfold Fl.tailNext; rw [F.freeFrom_self, if_pos rfl, a3], hFb⟩
      case round =>
        obtain ⟨i, K, rfl, i1, i2, hK, hKs, hKl, hKn, hFr⟩ := hrel
        have b0 : wr.cell? ⟨w.heap.size, 0, none⟩ = some (ptr j) := hFr.box.get 0 (by simp)
        have k0 := hK.c0
        have k1 := hK.c1
        have k2 := hK.c2
        rw [hKs.first] at k1
        rw [hKs.count] at k2
        have HKN := Lib.hid hKn
        have HKL := Lib.hid hKl
        have hfew := hFr.flash.few
        clear hKn hKl a3
        go_wp2_with fail
        refine (half_size _ f J.first J.count (by omega)).mono ?_
        rintro e v1 ⟨rfl, u1⟩
        have hK1 := hK.to u1
        have hFr1 := hFr.to u1 (by simp) (by simp)
        clear b0 k0 k1 k2
        by_cases hlt : i < 256 * J.count
        · have hltI : (i : Int) < ((256 * J.count : Nat) : Int) := by omega
          go_wp2_with fail
          have tD := Touch.dr v1
          have hKD := hK1.to tD
          have hFrD := hFr1.to tD (by simp) (by simp)
          refine wp_region_legs (fun w' => OwnAt w' w.heap.size 0 [ptr j] ∧ w'.rangeAt j 0 [ptr f, .int .i64 K.first, .int .i64 K.count] ∧ w'.rangeAt 0 0 W4.free.cells) [⟨[0, 1, 2, 3, 4, 6], some 5⟩, ⟨[], some 7⟩] (by kernel_rfl) (by kernel_rfl) ?_
          refine legs_onS ?_ ⟨hFrD.box, hKD.half0, hFrD.glob⟩ (fun w' hSw => ?_) ?_ ?_
          rotate_left
          · have b0 : w'.cell? ⟨w.heap.size, 0, none⟩ = some (ptr j) := hSw.1.get 0 (by simp)
            have k0 : w'.cell? ⟨j, 0, none⟩ = some (ptr f) := hSw.2.1 0 _ rfl
            have k1 : w'.cell? ⟨j, 1, none⟩ = some (.int .i64 K.first) := hSw.2.1 1 _ rfl
            have k2 : w'.cell? ⟨j, 2, none⟩ = some (.int .i64 K.count) := hSw.2.1 2 _ rfl
            rw [hKs.first] at k1
            rw [hKs.count] at k2
            obtain ⟨g0, g1, g2, g3⟩ := free4 hSw.2.2
            simp only [pick, nthOp]; go_wp2_with fail; refine And.intro ?_ ?_ <;> rfl
          · kernel_rfl
          simp only [pick, nthOp]
          go_wp2_with fail
          obtain ⟨x, hx⟩ : ∃ x, F.word (256 * J.first + i) = x := ⟨_, rfl⟩
          refine (half_at' _ f s F J.first J.count i rfl hFrD.flash ho hc hlt).mono ?_
          rintro e v2 ⟨rfl, u2⟩
          rw [hx]
          have hK2 := hKD.to u2
          have hFr2 := hFrD.to u2 (by simp) (by simp)
          have hsz := hFr2.flash.size
          have hnext : F.tailNext (256 * J.first) (256 * J.count) at_ (i + 1) = if x = W4.free then K.next else 256 * J.count := by
            rw [HKN.out]
            unfold Fl.tailNext
            rw [F.freeFrom_succ _ _ _ i1 (by omega), hx]
            by_cases hxf : x = W4.free
            · simp [hxf]
            · simp [hxf]
          have HNX := Lib.hid hnext
          clear hnext hx hsz
          go_wp2_with fail
          refine legs_nextS ⟨hFr2.box, hK2.half0, hFr2.glob⟩ ?_
          refine legs_onS ?_ ⟨hFr2.box, hK2.half0, hFr2.glob⟩ (fun w' hSw => ?_) ?_ ?_
          rotate_left
          · obtain ⟨_, _⟩ := hSw; simp only [pick, nthOp]; go_wp2_with fail; refine And.intro ?_ ?_ <;> rfl
          · kernel_rfl
          simp only [pick, nthOp]
          by_cases hxf : x = W4.free
          · have hE : ∀ W, (Op.equalIn 10000 30 x.val (.agg #[.int .u8 255, .int .u8 255, .int .u8 255, .int .u8 255])).run Tryd.prog W = .ok true W := fun W => (word_equal x W4.free W).trans (by rw [decide_eq_true hxf])
            have HXF := Lib.hid hxf
            clear hxf
            go_wp2_with fail
            refine legs_nextS ⟨hFr2.box, hK2.half0, hFr2.glob⟩ (legs_endS ?_)
            clear hE
            go_wp2_with fail
            go_roundw
            case rel => exact ⟨i + 1, K, by go_num, by omega, by omega, hK2, hKs, HKL.out, by rw [HNX.out, if_pos HXF.out], hFr2⟩
            case measure => simp [intOf]; omega
          · have hE : ∀ W, (Op.equalIn 10000 30 x.val (.agg #[.int .u8 255, .int .u8 255, .int .u8 255, .int .u8 255])).run Tryd.prog W = .ok false W := fun W => (word_equal x W4.free W).trans (by rw [decide_eq_false hxf])
            have HXF := Lib.hid hxf
            clear hxf
            go_wp2_with fail
            refine legs_nextS ⟨hFr2.box, hK2.half0, hFr2.glob⟩ (legs_endS ?_)
            clear hE
            go_wp2_with fail
            have tE := Touch.dr v2
            have hKE := hK2.to tE
            have hFrE := hFr2.to tE (by simp) (by simp)
            refine wp_region_legs (fun w' => OwnAt w' w.heap.size 0 [ptr j] ∧ w'.rangeAt j 0 [ptr f, .int .i64 K.first, .int .i64 K.count]) [⟨[0, 1, 2, 3, 4], some 5⟩, ⟨[6, 7], some 8⟩] (by kernel_rfl) (by kernel_rfl) ?_
            refine legs_onS ?_ ⟨hFrE.box, hKE.half0⟩ (fun w' hSw => ?_) ?_ ?_
            rotate_left
            · have b0 : w'.cell? ⟨w.heap.size, 0, none⟩ = some (ptr j) := hSw.1.get 0 (by simp)
              have k0 : w'.cell? ⟨j, 0, none⟩ = some (ptr f) := hSw.2 0 _ rfl
              have k1 : w'.cell? ⟨j, 1, none⟩ = some (.int .i64 K.first) := hSw.2 1 _ rfl
              have k2 : w'.cell? ⟨j, 2, none⟩ = some (.int .i64 K.count) := hSw.2 2 _ rfl
              rw [hKs.first] at k1
              rw [hKs.count] at k2
              simp only [pick, nthOp]; go_wp2_with fail; refine And.intro ?_ ?_ <;> rfl
            · kernel_rfl
            simp only [pick, nthOp]
            go_wp2_with fail
            refine (half_size _ f J.first J.count (by omega)).mono ?_
            rintro e v3 ⟨rfl, u3⟩
            have hK3 := hKE.to u3
            have hFr3 := hFrE.to u3 (by simp) (by simp)
            go_wp2_with fail
            refine legs_nextS ⟨hFr3.box, hK3.half0⟩ ?_
            refine legs_onS ?_ ⟨hFr3.box, hK3.half0⟩ (fun w' hSw => ?_) ?_ ?_
            rotate_left
            · simp only [pick, nthOp]; go_wp2_with fail; refine And.intro ?_ ?_ <;> rfl
            · kernel_rfl
            simp only [pick, nthOp]
            have k7 := hK3.c7
            have f7 := hK3.fz 7 (by omega)
            have hcz : ((256 * J.count : Nat) : Int) = 256 * (J.count : Int) := by omega
            have tF := Touch.cell1 v3 j 7 (.int .i64 (256 * (J.count : Int)))
            have hK4 := hK3.setNext (256 * J.count)
            rw [hcz] at hK4
            have hFr4 := hFr3.to tF (by simp; omega) (by simp)
            clear hcz
            go_wp2_with fail
            refine legs_nextS ⟨hFr4.box, hK4.half0⟩ (legs_endS ?_)
            clear k7 f7
            go_wp2_with fail
            go_roundw
            case rel => exact ⟨i + 1, { K with next := 256 * J.count }, by go_num, by omega, by omega, hK4, ⟨hKs.first, hKs.other, hKs.count, hKs.gen, hKs.cut⟩, HKL.out, by rw [HNX.out, if_neg HXF.out], hFr4⟩
            case measure => simp [intOf]; omega
        · have hltI : ((256 * J.count : Nat) : Int) ≤ (i : Int) := by omega
          have hfin : (K.next, K.slots.map Slot.p) = F.readAll J.first J.count (J.slots.map Slot.p) := by
            have hi : i = 256 * J.count := by omega
            unfold Fl.readAll
            rw [HS.out, HKN.out, HKL.out, hi]
            rfl
          have hJe := hK1.mute (o' := .deferred none) hFr1.defer rfl
          have hFe := hFr1.flash.mute (o' := .deferred none) hFr1.defer rfl
          have hTe := hFr1.touch.to (Touch.putObj _ w2.heap.size (.deferred none)) (fun k hk => by rw [List.mem_singleton] at hk; exact Or.inr (by omega))
          have HFI := Lib.hid hfin
          clear hfin
          go_wp2_with fail
          exact ⟨by simp, .inl ⟨_, _, rfl, run_takeDeferred hFr1.defer, ⟨_, results_none rfl _ _ _, rfl, ⟨K, hJe, hKs, HFI.out⟩, hFe, hTe⟩⟩⟩
    · obtain ⟨Jc, a1, a2, a3, a6, a8⟩ := hx
      have hel := run_endLoop (P := Tryd.prog) a8.loop (by unfold rcDone; simp)
      refine ⟨some .ret, _, hel, ?_⟩
      refine wpIn_ret ?_
      have hJb := a1.mute (o' := .loop { rcDone rc with state := .exhausted }) a8.loop rfl
      have hFb := a8.mute { rcDone rc with state := .exhausted } (by omega) (by omega)
      have hJe := hJb.mute (o' := .deferred none) hFb.defer rfl
      have hFe := hFb.flash.mute (o' := .deferred none) hFb.defer rfl
      have hTe := hFb.touch.to (Touch.putObj _ w2.heap.size (.deferred none)) (fun k hk => by rw [List.mem_singleton] at hk; exact Or.inr (by omega))
      have hfin : (Jc.next, Jc.slots.map Slot.p) = F.readAll J.first J.count (J.slots.map Slot.p) := by
        unfold Fl.readAll
        rw [a6]
        simp only [F.freeFrom_self, if_true, a3]
      simp only [List.cons_append, List.nil_append]
      go_wp2_with fail
      exact ⟨by simp, .inl ⟨_, _, rfl, run_takeDeferred hFb.defer, ⟨_, results_none rfl _ _ _, rfl, ⟨Jc, hJe, a2, hfin⟩, hFe, hTe⟩⟩⟩
  · refine ⟨?_, ?_, ?_, ?_⟩
    · rintro at_ W ⟨Jc, n, a1, a2, a3, a4, a5, a6, a7, a8⟩
      exact ⟨a8.flash, a8.half, a8.glob, a8.size⟩
    · exact fun at_ W W' hm ht => hm.to ht
    · rintro at_ W A c ⟨Jc, n, a1, a2, a3, a4, a5, a6, a7, a8⟩ hlt hfr hfit hA hnil hbl
      obtain ⟨x, hx⟩ : ∃ x, F.word (256 * J.first + at_) = x := ⟨_, rfl⟩
      obtain ⟨hd_, hhd⟩ : ∃ y, F.recHead (256 * J.first) at_ x = y := ⟨_, rfl⟩
      obtain ⟨b, hb⟩ : ∃ y, F.recBytes (256 * J.first) at_ x = y := ⟨_, rfl⟩
      obtain ⟨nx, hnx⟩ : ∃ y, recNext x at_ = y := ⟨_, rfl⟩
      rw [hx, hb] at hA hnil
      rw [hx, hnx] at hfit
      rw [hx, hb, hnx, hhd]
      rw [hx] at hfr
      have hstep : F.readFrom (256 * J.first) (256 * J.count) n at_ (Jc.slots.map Slot.p) = F.readFrom (256 * J.first) (256 * J.count) (n - 1) nx (takeRec (Jc.slots.map Slot.p) hd_ b) := by
        obtain ⟨n', rfl⟩ : ∃ n', n = n' + 1 := ⟨n - 1, by omega⟩
        rw [Fl.readFrom, if_neg (by rw [hx]; rintro (h | h); omega; exact hfr h), hx, hnx, if_neg (by omega), hhd, hb]; rfl
      have hnx2 : at_ + 2 ≤ nx := by rw [← hnx]; unfold recNext; omega
      have HS := Lib.hid (a6.trans hstep)
      clear hx hhd hb hnx hfr a6 hstep
      refine yield_round a8.loop (by rw [hps]; rfl) ?_
      rw [has, hbd, hps, htm, zip_two]
      simp only [List.setIfInBounds_toArray, List.set_cons_succ, List.set_cons_zero]
      refine wpIn_seq_k fun K hK => ?_
      gi_wp2_with (rw [Oper.semAt_eq _ _ _ (fun c h => by cases h)]; go_simp; try go_bits)
      have tA := Touch.one W (.cells #[u8v hd_.a, u8v hd_.b, u8v hd_.c, u8v hd_.d, .slice A b.length c] 98)
      have hR := OwnAt.new W #[u8v hd_.a, u8v hd_.b, u8v hd_.c, u8v hd_.d, .slice A b.length c] 98
      have hJa := a1.to tA
      have hAa := hA.to tA
      have hFa := a8.to tA (by simp) (by simp)
      refine ⟨_, run_beginRound hFa.loop hst, ?_⟩
      have hRb := hR.mute (o' := .loop (rcBusy rc)) hFa.loop rfl
      have hJb := hJa.mute (o' := .loop (rcBusy rc)) hFa.loop rfl
      have hAb := hAa.mute (o' := .loop (rcBusy rc)) hFa.loop rfl
      have hFb := hFa.mute (rcBusy rc) (by omega) (by omega)
      rw [show ({ state := .busy, pending := rc.pending, fn := rc.fn, tmps := rc.tmps, params := rc.params, assign := rc.assign, body := rc.body, defers := rc.defers } : Loop) = rcBusy rc from rfl]
      have hzR : W.heap.size < (W.alloc (.cells #[u8v hd_.a, u8v hd_.b, u8v hd_.c, u8v hd_.d, .slice A b.length c] 98)).heap.size := by simp
      have hzW : W1.heap.size ≤ W.heap.size := a8.size
      generalize (W.alloc (.cells #[u8v hd_.a, u8v hd_.b, u8v hd_.c, u8v hd_.d, .slice A b.length c] 98)).putObj (w2.heap.size + 1) (.loop (rcBusy rc)) = Wb at *
      have b0 : Wb.cell? ⟨w.heap.size, 0, none⟩ = some (ptr j) := hFb.box.get 0 (by simp)
      have k7 := hJb.c7
      have f7 := hJb.fz 7 (by omega)
      have tC := Touch.cell1 Wb j 7 (.int .i64 (nx : Int))
      have hJc := hJb.setNext nx
      have hRc := hRb.to tC
      have hAc := hAb.to tC (fun y hy => by have := hbl y hy; simp; omega)
      have hFc := hFb.to tC (by simp; omega) (by simp)
      have hneg : decide ((nx : Int) < 0) = false := by simp
      have hxa : (hd_.a.toNat : Int) < 256 := by have := hd_.a.toNat_lt; omega
      have r0 : (Wb.setCell ⟨j, 7, none⟩ (.int .i64 (nx : Int))).cell? ⟨W.heap.size, 0, none⟩ = some (u8v hd_.a) := hRc.get 0 (by simp)
      have r1 : (Wb.setCell ⟨j, 7, none⟩ (.int .i64 (nx : Int))).cell? ⟨W.heap.size, 1, none⟩ = some (u8v hd_.b) := hRc.get 1 (by simp)
      have r4 : (Wb.setCell ⟨j, 7, none⟩ (.int .i64 (nx : Int))).cell? ⟨W.heap.size, 4, none⟩ = some (.slice A b.length c) := hRc.get 4 (by simp)
      clear a3
      by_cases h16 : 16 ≤ hd_.a.toNat
      · have h16I : (16 : Int) ≤ (hd_.a.toNat : Int) := by omega
        gi_wp2_with (rw [Oper.semAt_eq _ _ _ (fun c h => by cases h)]; go_simp; try go_bits)
        refine ⟨_, _, endRound_go hst hpe hFc.loop, .inl ⟨rfl, ?_⟩⟩
        exact ⟨{ Jc with next := nx }, n - 1, hJc.mute hFc.loop rfl, ⟨a2.first, a2.other, a2.count, a2.gen, a2.cut⟩, rfl, by omega, hfit, by rw [HS.out]; rw [takeRec, if_pos (Or.inl h16)], by omega, hFc.mute rc (by omega) (by omega)⟩
      · have h16I : (hd_.a.toNat : Int) < 16 := by omega
        by_cases hlong : 4096 < b.length
        · have hlI : (4096 : Int) < (b.length : Int) := by omega
          gi_wp2_with (rw [Oper.semAt_eq _ _ _ (fun c h => by cases h)]; go_simp; try go_bits)
          refine ⟨_, _, endRound_go hst hpe hFc.loop, .inl ⟨rfl, ?_⟩⟩
          exact ⟨{ Jc with next := nx }, n - 1, hJc.mute hFc.loop rfl, ⟨a2.first, a2.other, a2.count, a2.gen, a2.cut⟩, rfl, by omega, hfit, by rw [HS.out]; rw [takeRec, if_pos (Or.inr hlong)], by omega, hFc.mute rc (by omega) (by omega)⟩
        · have hlI : (b.length : Int) ≤ 4096 := by omega
          have hno : ¬ (16 ≤ hd_.a.toNat ∨ 4096 < b.length) := by omega
          by_cases hk1 : hd_.b = 1
          · have hb1 : ((hd_.b.toNat : Int) == 1) = true := by rw [hk1]; rfl
            have HK := Lib.hid hk1
            clear hk1
            gi_wp2_with (rw [Oper.semAt_eq _ _ _ (fun c h => by cases h)]; go_simp; try go_bits)
            have hlt16 : hd_.a.toNat < 16 := by omega
            have hJd := (hJc.to (Touch.dr _)).setSlot hd_.a.toNat hlt16 ⟨true, false, b, A, c⟩ ⟨hAc.drew, by show b.length ≤ 4096; omega, hnil, fun y hy => by have := hbl y hy; refine ⟨?_, ?_, ?_⟩ <;> omega⟩
            have hJth : (Wb.setCell ⟨j, 7, none⟩ (.int .i64 (nx : Int))).drew.there j (8 + hd_.a.toNat * 3) 3 := by
              have := hJc.own.drew.there (i := 8 + hd_.a.toNat * 3) (n := 3) (by rw [Jn.cells_length, hJc.sixteen]; omega)
              rwa [Nat.zero_add] at this
            have hRd := hRc.to (Touch.dr _)
            have hBd := hFc.box.to (Touch.dr _)
            have tD := Touch.drCells (Wb.setCell ⟨j, 7, none⟩ (.int .i64 (nx : Int))) j (8 + hd_.a.toNat * 3) (Slot.cells ⟨true, false, b, A, c⟩)
            have hFd := hFc.to tD (by simp; omega) (by simp)
            rw [Nat.mul_comm 3] at hJd
            refine round_legs (fun w' => OwnAt w' w.heap.size 0 [ptr j] ∧ OwnAt w' W.heap.size 0 [u8v hd_.a, u8v hd_.b, u8v hd_.c, u8v hd_.d, .slice A b.length c]) [⟨[0, 1, 2, 3, 5, 6], some 4⟩, ⟨[7], some 8⟩] (by kernel_rfl) (by kernel_rfl) (fun a w h => h) ?_
            refine legs_onS ?_ ⟨hBd, hRd⟩ (fun w' hSw => ?_) ?_ ?_
            rotate_left
            · have b0 : w'.cell? ⟨w.heap.size, 0, none⟩ = some (ptr j) := hSw.1.get 0 (by simp)
              have r4 : w'.cell? ⟨W.heap.size, 4, none⟩ = some (.slice A b.length c) := hSw.2.get 4 (by simp)
              simp only [pick, nthOp]; go_wp2_with fail; refine And.intro ?_ ?_ <;> rfl
            · kernel_rfl
            simp only [pick, nthOp]
            go_wp2_with fail
            refine legs_nextS ⟨hBd, hRd⟩ ?_
            refine legs_onS ?_ ⟨hBd, hRd⟩ (fun w' hSw => ?_) ?_ ?_
            rotate_left
            · simp only [pick, nthOp]; go_wp2_with fail; refine And.intro ?_ ?_ <;> rfl
            · kernel_rfl
            simp only [pick, nthOp]
            go_wp2_with (refine wp_store_group (y := ⟨true, false, b, A, c⟩) (b := j) (o := 8 + hd_.a.toNat * 3) ?_ rfl rfl rfl rfl ?_; (with_reducible exact hJth))
            refine legs_nextS ⟨?_, ?_⟩ (legs_endS ?_)
            · exact hBd.to (Touch.cells _ j (8 + hd_.a.toNat * 3) _)
            · exact hRd.to (Touch.cells _ j (8 + hd_.a.toNat * 3) _)
            gi_wp2_with fail
            refine ⟨_, _, endRound_go hst hpe hFd.loop, .inl ⟨rfl, ?_⟩⟩
            exact ⟨{ Jc with next := nx, slots := Jc.slots.set hd_.a.toNat ⟨true, false, b, A, c⟩ }, n - 1, hJd.mute hFd.loop rfl, ⟨a2.first, a2.other, a2.count, a2.gen, a2.cut⟩, rfl, by omega, hfit, by rw [HS.out]; rw [takeRec, if_neg hno, if_pos HK.out, map_p_set]; rfl, by omega, hFd.mute rc (by omega) (by omega)⟩
          · have hb1 : ((hd_.b.toNat : Int) == 1) = false := by
              rw [beq_eq_false_iff_ne]; intro e; apply hk1; apply UInt8.toNat_inj.1; show hd_.b.toNat = 1; omega
            by_cases hk2 : hd_.b = 2
            · have hb2 : ((hd_.b.toNat : Int) == 2) = true := by rw [hk2]; rfl
              have HK := Lib.hid hk2
              have HK1 := Lib.hid hk1
              clear hk2 hk1
              obtain ⟨y, hy⟩ : ∃ y, Jc.slots[hd_.a.toNat]? = some y := ⟨_, List.getElem?_eq_getElem (by rw [a1.sixteen]; omega)⟩
              obtain ⟨q0, q1, q2⟩ := hJc.slotCell hy
              have z0 := hJc.fz (8 + hd_.a.toNat * 3) (by omega)
              have z1 := hJc.fz (8 + hd_.a.toNat * 3 + 1) (by omega)
              have z2 := hJc.fz (8 + hd_.a.toNat * 3 + 2) (by omega)
              have hgs : (hd_.a.toNat : Int).toNat = hd_.a.toNat := rfl
              gi_wp2_with (rw [Oper.semAt_eq _ _ _ (fun c h => by cases h)]; go_simp; try go_bits)
              have hlt16 : hd_.a.toNat < 16 := by omega
              have hJd := hJc.setSlot hd_.a.toNat hlt16 ⟨false, false, [], none, 0⟩ ⟨.nil _ _, by simp, by simp, by simp⟩
              have tD := Touch.cells (Wb.setCell ⟨j, 7, none⟩ (.int .i64 (nx : Int))) j (8 + hd_.a.toNat * 3) (Slot.cells ⟨false, false, [], none, 0⟩)
              have hFd := hFc.to tD (by simp; omega) (by simp)
              rw [Nat.mul_comm 3] at hJd
              refine ⟨_, _, endRound_go hst hpe hFd.loop, .inl ⟨rfl, ?_⟩⟩
              exact ⟨{ Jc with next := nx, slots := Jc.slots.set hd_.a.toNat ⟨false, false, [], none, 0⟩ }, n - 1, hJd.mute hFd.loop rfl, ⟨a2.first, a2.other, a2.count, a2.gen, a2.cut⟩, rfl, by omega, hfit, by rw [HS.out]; rw [takeRec, if_neg hno, if_neg HK1.out, if_pos HK.out, map_p_set]; rfl, by omega, hFd.mute rc (by omega) (by omega)⟩
            · have hb2 : ((hd_.b.toNat : Int) == 2) = false := by
                rw [beq_eq_false_iff_ne]; intro e; apply hk2; apply UInt8.toNat_inj.1; show hd_.b.toNat = 2; omega
              have HK := Lib.hid hk2
              have HK1 := Lib.hid hk1
              clear hk2 hk1
              gi_wp2_with (rw [Oper.semAt_eq _ _ _ (fun c h => by cases h)]; go_simp; try go_bits)
              refine ⟨_, _, endRound_go hst hpe hFc.loop, .inl ⟨rfl, ?_⟩⟩
              exact ⟨{ Jc with next := nx }, n - 1, hJc.mute hFc.loop rfl, ⟨a2.first, a2.other, a2.count, a2.gen, a2.cut⟩, rfl, by omega, hfit, by rw [HS.out]; rw [takeRec, if_neg hno, if_neg HK1.out, if_neg HK.out], by omega, hFc.mute rc (by omega) (by omega)⟩
    · rintro at_ W ⟨Jc, n, a1, a2, a3, a4, a5, a6, a7, a8⟩ hlt hfr hfit
      obtain ⟨x, hx⟩ : ∃ x, F.word (256 * J.first + at_) = x := ⟨_, rfl⟩
      have hstep : F.readFrom (256 * J.first) (256 * J.count) n at_ (Jc.slots.map Slot.p) = (256 * J.count, Jc.slots.map Slot.p) := by
        obtain ⟨n', rfl⟩ : ∃ n', n = n' + 1 := ⟨n - 1, by omega⟩
        rw [Fl.readFrom, if_neg (by rintro (h | h); omega; exact hfr h), if_pos hfit]
      rw [hx]
      have HS := Lib.hid (a6.trans hstep)
      have hfew := a8.flash.few
      clear hx hfr a6 hstep hfit
      refine yield_round a8.loop (by rw [hps]; rfl) ?_
      rw [has, hbd, hps, htm, zip_two]
      simp only [List.setIfInBounds_toArray, List.set_cons_succ, List.set_cons_zero]
      refine wpIn_seq_k fun K hK => ?_
      gi_wp2_with (rw [Oper.semAt_eq _ _ _ (fun c h => by cases h)]; go_simp; try go_bits)
      have tA := Touch.one W (.cells #[u8v x.a, u8v x.b, u8v x.c, u8v x.d, .slice none 0 0] 98)
      have hJa := a1.to tA
      have hFa := a8.to tA (by simp) (by simp)
      refine ⟨_, run_beginRound hFa.loop hst, ?_⟩
      have hJb := hJa.mute (o' := .loop (rcBusy rc)) hFa.loop rfl
      have hFb := hFa.mute (rcBusy rc) (by omega) (by omega)
      rw [show ({ state := .busy, pending := rc.pending, fn := rc.fn, tmps := rc.tmps, params := rc.params, assign := rc.assign, body := rc.body, defers := rc.defers } : Loop) = rcBusy rc from rfl]
      generalize (W.alloc (.cells #[u8v x.a, u8v x.b, u8v x.c, u8v x.d, .slice none 0 0] 98)).putObj (w2.heap.size + 1) (.loop (rcBusy rc)) = Wb at *
      have b0 : Wb.cell? ⟨w.heap.size, 0, none⟩ = some (ptr j) := hFb.box.get 0 (by simp)
      have k7 := hJb.c7
      have f7 := hJb.fz 7 (by omega)
      have tC := Touch.cell1 Wb j 7 (.int .i64 (-1))
      have hFc := hFb.to tC (by simp; omega) (by simp)
      gi_wp2_with (rw [Oper.semAt_eq _ _ _ (fun c h => by cases h)]; go_simp; try go_bits)
      have tD := Touch.dr (Wb.setCell ⟨j, 7, none⟩ (.int .i64 (-1)))
      have hFd := hFc.to tD (by simp) (by simp)
      refine round_legs (fun w' => OwnAt w' w.heap.size 0 [ptr j] ∧ Touch [] (Wb.setCell ⟨j, 7, none⟩ (.int .i64 (-1))) w' ∨ OwnAt w' w.heap.size 0 [ptr j] ∧ w'.cell? ⟨j, 0, none⟩ = some (ptr f) ∧ w'.cell? ⟨j, 1, none⟩ = some (.int .i64 J.first) ∧ w'.cell? ⟨j, 2, none⟩ = some (.int .i64 J.count)) [⟨[0, 1, 2, 3, 4], some 5⟩, ⟨[6, 7], some 8⟩] (by kernel_rfl) (by kernel_rfl) (fun a w h => h) ?_
      refine legs_onS ?_ (.inl ⟨hFd.box, tD⟩) (fun w' hSw => ?_) ?_ ?_
      rotate_left
      · have hS2 : OwnAt w' w.heap.size 0 [ptr j] ∧ w'.cell? ⟨j, 0, none⟩ = some (ptr f) ∧ w'.cell? ⟨j, 1, none⟩ = some (.int .i64 J.first) ∧ w'.cell? ⟨j, 2, none⟩ = some (.int .i64 J.count) := by
          rcases hSw with ⟨h1, h2⟩ | h
          · obtain ⟨q0, q1, q2, _⟩ := hJb.gapHalf _ h2
            rw [a2.first] at q1
            rw [a2.count] at q2
            exact ⟨h1, q0, q1, q2⟩
          · exact h
        obtain ⟨h1, k0, k1, k2⟩ := hS2
        have b0 : w'.cell? ⟨w.heap.size, 0, none⟩ = some (ptr j) := h1.get 0 (by simp)
        clear hSw
        simp only [pick, nthOp]; go_wp2_with fail; refine And.intro ?_ ?_ <;> rfl
      · kernel_rfl
      simp only [pick, nthOp]
      go_wp2_with fail
      refine (half_size _ f J.first J.count (by omega)).mono ?_
      rintro e v3 ⟨rfl, u3⟩
      have tE := tD.trans u3
      have hFe := hFd.to u3 (by simp) (by simp)
      go_wp2_with fail
      refine legs_nextS (.inl ⟨hFe.box, tE⟩) ?_
      refine legs_onS ?_ (.inl ⟨hFe.box, tE⟩) (fun w' hSw => ?_) ?_ ?_
      rotate_left
      · clear hSw; simp only [pick, nthOp]; go_wp2_with fail; refine And.intro ?_ ?_ <;> rfl
      · kernel_rfl
      simp only [pick, nthOp]
      obtain ⟨q0, q1, q2, q7, z7⟩ := hJb.gapHalf _ tE
      rw [a2.first] at q1
      rw [a2.count] at q2
      have hcz : ((256 * J.count : Nat) : Int) = 256 * (J.count : Int) := by omega
      have tF := Touch.cell1 v3 j 7 (.int .i64 (256 * (J.count : Int)))
      have hK4 := hJb.gap _ tE (256 * J.count)
      rw [hcz] at hK4
      have hFf := hFe.to tF (by simp; omega) (by simp)
      have q0' : (v3.setCell ⟨j, 7, none⟩ (.int .i64 (256 * (J.count : Int)))).cell? ⟨j, 0, none⟩ = some (ptr f) := hK4.c0
      have q1' : (v3.setCell ⟨j, 7, none⟩ (.int .i64 (256 * (J.count : Int)))).cell? ⟨j, 1, none⟩ = some (.int .i64 J.first) := by rw [← a2.first]; exact hK4.c1
      have q2' : (v3.setCell ⟨j, 7, none⟩ (.int .i64 (256 * (J.count : Int)))).cell? ⟨j, 2, none⟩ = some (.int .i64 J.count) := by have h9 : (v3.setCell ⟨j, 7, none⟩ (.int .i64 (256 * (J.count : Int)))).cell? ⟨j, 2, none⟩ = some (.int .i64 Jc.count) := hK4.c2; rw [a2.count] at h9; exact h9
      clear hcz q0 q1 q2
      go_wp2_with fail
      refine legs_nextS (.inr ⟨hFf.box, q0', q1', q2'⟩) (legs_endS ?_)
      gi_wp2_with fail
      refine ⟨_, _, endRound_stop hFf.loop, ⟨⟨_, rfl⟩, ?_⟩⟩
      exact ⟨{ Jc with next := 256 * J.count }, hK4.mute hFf.loop rfl, ⟨a2.first, a2.other, a2.count, a2.gen, a2.cut⟩, rfl, HS.out, hFf.mute (rcDone rc) (by omega) (by omega)⟩
end Go.Proofs.YtdfgcenbkclpbaaDoor
