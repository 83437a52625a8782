/- Does a journal tell what the document's does? -/
import Derived.Test.YtdfgcenbkclpbaaDoorDoc
import Derived.Test.YtdfgcenbkclpbaaDoorLoads
namespace Go.Proofs.YtdfgcenbkclpbaaDoor
open Go.RowKit
set_option linter.unusedSimpArgs false
set_option linter.unusedVariables false
/-- as rowOk, where a guard's word may stand open -/
def rowOk2 (P : Program) (ops : Array Oper) (A : Act) : List Oper → Bool
  | [] => true
  | o :: os => (match o.dst with | some d => decide (d < A.tmps.size) && !(o.looksAt ops).contains d | none => false) &&
      untouched ops o os && (purish P o A || !Region.wanted o (yielded ops A.tmps)) && rowOk2 P ops A os
theorem rowOk_of2 {P : Program} {ops : Array Oper} {A : Act} : ∀ {l : List Oper}, rowOk2 P ops A l = true → rowOk P ops A l = true
  | [], _ => rfl
  | o :: os, h => by
    unfold rowOk2 at h
    unfold rowOk
    rw [Bool.and_eq_true] at h ⊢
    refine ⟨?_, rowOk_of2 h.2⟩
    rw [Bool.or_comm]
    exact h.1
/-- a slice of bytes of a call's own, all of its block's -/
structure OwnSl (w : World) (A : Option Addr) (base : Nat) (L : List UInt8) : Prop where
  is : L = [] ∨ ∃ g, A = some ⟨g, 0, none⟩ ∧ base ≤ g ∧ OwnAt w g 0 (L.map u8v)
theorem OwnSl.of {w : World} {base : Nat} {A : Option Addr} {cap n : Nat} {L : List UInt8} (h : w.ownsRow base 5 1 (.slice A n cap) n (L.map u8v)) (hn : n = L.length) : OwnSl w A base L := by
  subst hn
  by_cases hp : L = []
  · exact ⟨Or.inl hp⟩
  · have hl : 0 < L.length := List.length_pos_iff.2 hp
    obtain ⟨g, cap', e, hb, _, _, hO⟩ := ownsRow_cells h hl
    cases e
    exact ⟨Or.inr ⟨g, rfl, hb, hO⟩⟩
theorem OwnSl.to {S : List Nat} {w w' : World} {A : Option Addr} {base : Nat} {L : List UInt8} (h : OwnSl w A base L) (ht : Touch S w w') (hS : ∀ k ∈ S, k < base := by simp) : OwnSl w' A base L := by
  rcases h.is with e | ⟨g, rfl, hb, hO⟩
  · exact ⟨Or.inl e⟩
  · exact ⟨Or.inr ⟨g, rfl, hb, hO.touch ht (fun hm => by have := hS g hm; omega)⟩⟩
theorem OwnSl.open_ {w : World} {A : Option Addr} {base : Nat} {L : List UInt8} (h : OwnSl w A base L) (hp : 0 < L.length) : ∃ g, A = some ⟨g, 0, none⟩ ∧ base ≤ g ∧ OwnAt w g 0 (L.map u8v) := by
  rcases h.is with e | h
  · subst e; simp at hp
  · exact h
theorem OwnSl.slice {w : World} {A : Option Addr} {base : Nat} {L : List UInt8} (h : OwnSl w A base L) : SliceAt w A (L.map u8v) := by
  rcases h.is with rfl | ⟨g, rfl, _, hO⟩
  · exact .nil _ _
  · exact hO.slice
/-- how many of the first k groups are there -/
def cntP (P : List PSlot) (k : Nat) : Nat := ((P.take k).filter (·.there)).length
theorem cntP_zero (P : List PSlot) : cntP P 0 = 0 := rfl
theorem cntP_succ {P : List PSlot} {k : Nat} {x : PSlot} (h : P[k]? = some x) : cntP P (k + 1) = cntP P k + (if x.there then 1 else 0) := by
  unfold cntP
  rw [List.take_add_one, h, List.filter_append, List.length_append]
  cases ht : x.there <;> simp [ht]
theorem cntP_over {P : List PSlot} {k : Nat} (h : P.length ≤ k) : cntP P k = (P.filter (·.there)).length := by
  unfold cntP; rw [List.take_of_length_le h]
theorem thereP_len : ∀ (P : List PSlot) (k : Nat), (thereP P k).length = (P.filter (·.there)).length
  | [], _ => rfl
  | x :: r, k => by
    unfold thereP
    cases hx : x.there <;> simp [hx, thereP_len r]
theorem thereP_at : ∀ {P : List PSlot} {i k : Nat} {x : PSlot}, P[i]? = some x → x.there = true → (thereP P k)[cntP P i]? = some (UInt8.ofNat (k + i))
  | [], i, _, _, h, _ => by simp at h
  | y :: r, 0, k, x, h, ht => by
    simp at h; subst h
    unfold thereP
    rw [if_pos ht]
    simp [cntP]
  | y :: r, i + 1, k, x, h, ht => by
    have ih := thereP_at (P := r) (i := i) (k := k + 1) (by simpa using h) ht
    unfold thereP
    have e : cntP (y :: r) (i + 1) = (if y.there then 1 else 0) + cntP r i := by
      unfold cntP
      rw [List.take_succ_cons]
      cases hy : y.there <;> simp [hy]; omega
    rw [e]
    cases hy : y.there with
    | true => rw [if_pos rfl, if_pos rfl, Nat.add_comm 1, List.getElem?_cons_succ, ih]; congr 2; omega
    | false => rw [if_neg (by simp), if_neg (by simp), Nat.zero_add, ih]; congr 2; omega
/-- do both tell the same of the groups ahead of k? -/
def agreeTo (P M : List PSlot) (k : Nat) : Prop := ∀ i, i < k → loadP P i = loadP M i
def agreeP (P M : List PSlot) : Prop := ∀ i, i < 16 → loadP P i = loadP M i
instance (P M : List PSlot) : Decidable (agreeP P M) := inferInstanceAs (Decidable (∀ i, i < 16 → loadP P i = loadP M i))
theorem agreeTo_next {P M : List PSlot} {k : Nat} (h : agreeTo P M k) (e : loadP P k = loadP M k) : agreeTo P M (k + 1) := fun i hi => by
  by_cases hk : i = k
  · subst hk; exact e
  · exact h i (by omega)
theorem agreeP_not {P M : List PSlot} {k : Nat} (hk : k < 16) (e : loadP P k ≠ loadP M k) : decide (agreeP P M) = false := decide_eq_false fun h => e (h k hk)
theorem agreeP_of {P M : List PSlot} {k : Nat} (h : agreeTo P M k) (hk : 16 ≤ k) : decide (agreeP P M) = true := decide_eq_true fun i hi => h i (by omega)
theorem loadP_over {P : List PSlot} {k : Nat} (h : P.length ≤ k) : loadP P k = (false, []) := by unfold loadP; rw [List.getElem?_eq_none h]
theorem loadP_off {P : List PSlot} {k : Nat} {x : PSlot} (h : P[k]? = some x) (ht : x.there = false) : loadP P k = (false, []) := by unfold loadP; rw [h]; simp [ht]
set_option maxRecDepth 100000 in
set_option maxHeartbeats 6400000 in
theorem tells_any (w : World) (j f s m g count : Nat) (J : Jn) (M : List PSlot) (hJ : JnAt w j f s J) (hM : RefAt w m g M count) :
    Calls Tryd.prog 44 #[ptr j, ptr m] w fun e w' => e = .returned (.bool (decide (agreeP (J.slots.map Slot.p) M))) ∧ Touch [] w w' := by
  obtain ⟨P, hP⟩ : ∃ P, J.slots.map Slot.p = P := ⟨_, rfl⟩
  have hP16 : P.length = 16 := by rw [← hP, List.length_map]; exact hJ.sixteen
  have hM16 := hM.sixteen
  rw [hP]
  go_enter Tryd.func44, Tryd.ntmps44
  go_wp2_with fail
  refine (groups_any _ j f s J hJ).mono ?_
  rintro e w1 ⟨v, rfl, hv, t1⟩
  rw [there_p, hP] at hv
  obtain ⟨A, cap, rfl, _⟩ := ownsRow_slice' hv
  have hL0 := OwnSl.of hv rfl
  have hLlen : (thereP P 0).length = (P.filter (·.there)).length := thereP_len P 0
  obtain ⟨N, hN⟩ : ∃ N, (thereP P 0).length = N := ⟨_, rfl⟩
  have hN16 : N ≤ 16 := by rw [← hN, hLlen, ← hP16]; exact List.length_filter_le ..
  rw [hN]
  clear hv
  go_wp2_with fail
  go_loopw [5, 7, 8, 9, 10] (fun v5 v7 v8 v9 v10 wr => ∃ (k : Nat) (L : List UInt8), k ≤ 256 ∧ v7 = .int .i64 k ∧ v5 = .int .i64 (cntP P k : Nat) ∧ agreeTo P M k ∧ L.length = N ∧ OwnSl wr A w.heap.size L ∧ (∀ q, cntP P k ≤ q → L[q]? = (thereP P 0)[q]?) ∧ Touch [] w wr) (fun _ v _ _ _ _ => 256 - (intOf v).toNat)
  case atStart => exact ⟨0, thereP P 0, by omega, rfl, rfl, fun i hi => by omega, hN, hL0, fun q _ => rfl, t1⟩
  case round =>
    obtain ⟨k, L, hk, rfl, rfl, hag, hLN, hLo, hLq, hT⟩ := hrel
    have hJr := hJ.to hT
    have hMr := hM.to hT
    by_cases hlt : k < 256
    · have hltI : (k : Int) < 256 := by omega
      have hk0 : (0 : Int) ≤ (k : Int) := by omega
      obtain ⟨n, hn⟩ : ∃ n, cntP P k = n := ⟨_, rfl⟩
      rw [hn] at hLq ⊢
      have HLQ := Lib.hid hLq
      have HAG := Lib.hid hag
      have HCN := Lib.hid hn
      clear hLq hag hn
      go_wp2_with fail
      refine (load_p _ j f s J k P hJr hP hlt).mono ?_
      rintro e w2 ⟨A2, c2, rfl, hv2, t2⟩
      have T2 := hT.to t2
      have hM2 := hMr.to t2
      have m0 := hM2.h0
      have hL2 := hLo.to t2
      by_cases h16 : k < 16
      · have h16I : (k : Int) < 16 := by omega
        obtain ⟨x, hx⟩ : ∃ x, P[k]? = some x := ⟨_, List.getElem?_eq_getElem (by omega)⟩
        obtain ⟨y, hy⟩ : ∃ y, M[k]? = some y := ⟨_, List.getElem?_eq_getElem (by omega)⟩
        obtain ⟨y0, y1, y2⟩ := hM2.cell hy
        have hcs := cntP_succ hx
        cases hyt : y.there with
        | false =>
          rw [hyt] at y0
          have em := loadP_off hy hyt
          cases hxt : x.there with
          | false =>
            have ep := loadP_off hx hxt
            rw [hxt, HCN.out] at hcs
            rw [ep]
            have hcs' : cntP P (k + 1) = n := hcs
            clear hcs hv2 hx hy
            go_wp2_with fail
            go_roundw
            case rel => exact ⟨k + 1, L, by omega, by go_num, by rw [hcs'], agreeTo_next HAG.out (by rw [ep, em]), hLN, hL2, by rw [hcs']; exact HLQ.out, T2⟩
            case measure => simp [intOf]; omega
          | true =>
            have ep := loadP_there hx hxt
            have hno := agreeP_not (P := P) (M := M) h16 (by rw [ep, em]; simp)
            rw [ep]
            clear hcs hv2 hx hy
            go_wp2_with fail
            go_ret
            rw [hno]
            exact ⟨rfl, T2⟩
        | true =>
          rw [hyt] at y0
          have em := loadP_there hy hyt
          cases hxt : x.there with
          | false =>
            have ep := loadP_off hx hxt
            have hno := agreeP_not (P := P) (M := M) h16 (by rw [ep, em]; simp)
            rw [ep]
            clear hcs hv2 hx hy
            have tD := Touch.dr w2
            have hMD := hM2.to tD
            have d0 := hMD.h0
            have HY := Lib.hid y1
            go_wp2_with fail
            refine wp_region_by [⟨false, [0, 1, 2, 3, 5, 6, 7, 9], none⟩, ⟨true, [4, 8, 10, 11, 12, 13, 14, 15, 16, 17, 18, 19, 20, 21, 22, 23, 24, 25, 26, 27, 28, 29], none⟩] (by kernel_rfl) (by kernel_rfl) ?_
            refine by_row ?_ (fun w' => ?_) ?_ ?_
            rotate_left
            · simp only [pick, nthOp]; go_wp2_with fail; refine And.intro ?_ ?_ <;> rfl
            · kernel_rfl
            refine by_row_here ?_ ?_ ?_ ?_
            rotate_left
            · simp only [pick, nthOp]; go_wp2_with fail; refine And.intro ?_ ?_ <;> rfl
            · kernel_rfl
            refine by_end ?_
            go_wp2_with fail
            go_ret
            rw [hno]
            exact ⟨rfl, T2.to tD⟩
          | true =>
            have ep := loadP_there hx hxt
            by_cases hbb : x.b = y.b
            · have eq := em
              rw [← hbb] at eq y1
              rw [hxt, HCN.out, if_pos rfl] at hcs
              have hat := thereP_at (k := 0) hx hxt
              rw [Nat.zero_add, HCN.out, ← HLQ.out n (Nat.le_refl _)] at hat
              have hnN : n < N := by have := (List.getElem?_eq_some_iff.1 hat).1; omega
              have hnI : (n : Int) < (N : Int) := by omega
              have hbl := hJr.slots
              rw [ep] at hv2 ⊢
              have hbl : x.b.length ≤ 4096 := by
                rw [← hP] at hx
                obtain ⟨sl, h1, rfl⟩ := slot_of_p rfl hx
                exact (hJ.slots sl (List.mem_of_getElem? h1)).2.1
              have hB2 := OwnSl.of hv2 rfl
              obtain ⟨gl, rfl, hgl, hLO⟩ := hL2.open_ (by omega)
              have tD := Touch.dr w2
              have hMD := hM2.to tD
              have d0 := hMD.h0
              obtain ⟨_, z1, _⟩ := hMD.cell hy
              rw [← hbb] at z1
              have e1 := run_str (dst := 9) Tryd.underlying22 Tryd.underlying5 Tryd.underlying9 (hB2.slice.to tD) c2
              have hln : w2.drew.cell? ⟨gl, n, none⟩ = some (.int .u8 k) := by
                have := (hLO.to tD).get n (by simp; omega)
                rw [Nat.zero_add] at this
                rw [this, List.getElem_map, (List.getElem?_eq_some_iff.1 hat).2]
                simp [u8v]; omega
              have hnd : decide ((N : Int) ≤ (n : Int)) = false := decide_eq_false (by omega)
              have HCS := Lib.hid hcs
              generalize x.b = bb at *
              clear hcs hx hy hv2 hbb hat
              go_wp2_with fail
              refine wp_region_by [⟨false, [0, 1, 2, 3, 5, 6, 7, 9], none⟩, ⟨true, [4, 8, 10, 11, 12, 13, 14, 15, 16, 17, 18, 19, 20, 21, 22, 23, 24, 25, 26, 27, 28, 29], none⟩] (by kernel_rfl) (by kernel_rfl) ?_
              refine by_row ?_ (fun w' => ?_) ?_ ?_
              rotate_left
              · simp only [pick, nthOp]; go_wp2_with fail; refine And.intro ?_ ?_ <;> rfl
              · kernel_rfl
              refine by_row_here ?_ ?_ ?_ ?_
              rotate_left
              · simp only [pick, nthOp]; go_wp2_with fail; refine And.intro ?_ ?_ <;> rfl
              · refine rowOk_of2 ?_
                kernel_rfl
              refine by_end ?_
              go_wp2_with fail
              clear e1 hln hnd z1 d0 hMD y1 y0 y2 m0
              have hbI : (bb.length : Int) ≤ 4096 := by omega
              have t3 := t2.to tD
              have hB3 := hB2.to tD
              obtain ⟨wo, rfl⟩ : ∃ wo, wo = wr := ⟨_, rfl⟩
              go_loopw [10] (fun v wi => ∃ (q : Nat) (B : List UInt8), q ≤ bb.length ∧ v = .int .i64 q ∧ B.length = bb.length ∧ OwnSl wi A2 wo.heap.size B ∧ Touch [] wo wi) (fun v _ => bb.length - (intOf v).toNat)
              case atStart => exact ⟨0, bb, by omega, rfl, rfl, hB3, t3⟩
              case round =>
                obtain ⟨q, B, hq, rfl, hBl, hBo, hTi⟩ := hrel
                by_cases hqt : q < bb.length
                · have hqI : (q : Int) < (bb.length : Int) := by omega
                  obtain ⟨g2, hA2, hg2, hBO⟩ := hBo.open_ (by omega)
                  have c1 : wr.cell? ⟨g2, q, none⟩ = some (.int .u8 (B[q].toNat : Nat)) := by
                    have := hBO.get q (by simp; omega)
                    rw [Nat.zero_add] at this
                    rw [this, List.getElem_map]
                  have z1 : wr.frozen? ⟨g2, q, none⟩ = false := by
                    have := hBO.free q (by simp; omega)
                    rwa [Nat.zero_add] at this
                  have hxr : bits .xor .u8 ((B[q]).toNat : Int) 255 = ((B[q] ^^^ 255).toNat : Int) := by
                    rw [show (255 : Int) = ((255 : Nat) : Int) from rfl, u8_xor_nat _ _ (B[q]).toNat_lt (by omega), UInt8.toNat_xor]; rfl
                  have hBn := hBO.set0 q (u8v (B[q] ^^^ 255)) (by simp; omega)
                  rw [← List.map_set] at hBn
                  have hTn := hTi.setCell (p := ⟨g2, q, none⟩) (Or.inr hg2) (u8v (B[q] ^^^ 255))
                  generalize B[q] = bq at *
                  have HX := Lib.hid hxr
                  cases hA2
                  clear hBo hBO hxr
                  go_wp2_with fail
                  rw [HX.out]
                  go_roundw
                  case rel => exact ⟨q + 1, B.set q (bq ^^^ 255), by omega, by go_num, by simpa using hBl, ⟨Or.inr ⟨g2, rfl, hg2, hBn⟩⟩, hTn⟩
                  case measure => simp [intOf]; omega
                · have : q = bb.length := by omega
                  subst this
                  obtain ⟨gl', hgl', hglb, hLi⟩ := (hLo.to hTi).open_ (by omega)
                  cases hgl'
                  have z1 : wr.frozen? ⟨gl, n, none⟩ = false := by
                    have := hLi.free n (by simp; omega)
                    rwa [Nat.zero_add] at this
                  have c1 : wr.cell? ⟨gl, n, none⟩ = some (u8v L[n]) := by
                    have := hLi.get n (by simp; omega)
                    rw [Nat.zero_add] at this
                    rw [this, List.getElem_map]
                  have hLn := hLi.set0 n (u8v 99) (by simp; omega)
                  rw [← List.map_set] at hLn
                  have hTn := (hT.to hTi).setCell (p := ⟨gl, n, none⟩) (Or.inr hgl) (u8v 99)
                  generalize L[n] = ln at *
                  clear hLi
                  go_wp2_with fail
                  go_roundw
                  case rel =>
                    refine ⟨k + 1, L.set n 99, by omega, by go_num, by rw [HCS.out]; go_num, agreeTo_next HAG.out (by rw [ep, eq]), by simpa using hLN, ⟨Or.inr ⟨gl, rfl, hgl, hLn⟩⟩, fun q hq => ?_, hTn⟩
                    rw [HCS.out] at hq
                    rw [List.getElem?_set_ne (by omega)]
                    exact HLQ.out q (by omega)
                  case measure => simp [intOf]; omega
            · have hno := agreeP_not (P := P) (M := M) h16 (by rw [ep, em]; simpa using hbb)
              rw [ep] at hv2 ⊢
              have hB2 := OwnSl.of hv2 rfl
              have tD := Touch.dr w2
              have hMD := hM2.to tD
              have d0 := hMD.h0
              obtain ⟨_, z1, _⟩ := hMD.cell hy
              have e1 := run_str (dst := 9) Tryd.underlying22 Tryd.underlying5 Tryd.underlying9 (hB2.slice.to tD) c2
              have hxl : x.b.length ≤ 4096 := by
                rw [← hP] at hx
                obtain ⟨sl, h1, rfl⟩ := slot_of_p rfl hx
                exact (hJ.slots sl (List.mem_of_getElem? h1)).2.1
              generalize x.b = bb at *
              generalize y.b = yb at *
              clear hcs hx hy hv2
              have hbe : (bb == yb) = false := by simpa using hbb
              go_wp2_with fail
              refine wp_region_by [⟨false, [0, 1, 2, 3, 5, 6, 7, 9], none⟩, ⟨true, [4, 8, 10, 11, 12, 13, 14, 15, 16, 17, 18, 19, 20, 21, 22, 23, 24, 25, 26, 27, 28, 29], none⟩] (by kernel_rfl) (by kernel_rfl) ?_
              refine by_row ?_ (fun w' => ?_) ?_ ?_
              rotate_left
              · simp only [pick, nthOp]; go_wp2_with fail; refine And.intro ?_ ?_ <;> rfl
              · kernel_rfl
              refine by_row_here ?_ ?_ ?_ ?_
              rotate_left
              · simp only [pick, nthOp]; go_wp2_with fail; refine And.intro ?_ ?_ <;> rfl
              · refine rowOk_of2 ?_
                kernel_rfl
              refine by_end ?_
              go_wp2_with fail
              go_ret
              rw [hno]
              exact ⟨rfl, T2.to tD⟩
      · have ep := loadP_over (P := P) (k := k) (by omega)
        have em := loadP_over (P := M) (k := k) (by omega)
        have h16I : (16 : Int) ≤ (k : Int) := by omega
        have hcs' : cntP P (k + 1) = n := by rw [← HCN.out, cntP_over (by omega), cntP_over (by omega)]
        rw [ep]
        clear hv2
        go_wp2_with fail
        go_roundw
        case rel => exact ⟨k + 1, L, by omega, by go_num, by rw [hcs'], agreeTo_next HAG.out (by rw [ep, em]), hLN, hL2, by rw [hcs']; exact HLQ.out, T2⟩
        case measure => simp [intOf]; omega
    · have : k = 256 := by omega
      subst this
      have hyes := agreeP_of hag (by omega)
      have hcn : cntP P 256 = N := by rw [cntP_over (by omega), ← hN, hLlen]
      rw [hcn]
      go_wp2_with fail
      go_ret
      rw [hyes]
      exact ⟨rfl, hT⟩
end Go.Proofs.YtdfgcenbkclpbaaDoor
