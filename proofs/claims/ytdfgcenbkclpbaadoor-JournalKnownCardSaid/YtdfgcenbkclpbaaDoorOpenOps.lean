/- A row of calls, opened. -/
import Derived.Test.YtdfgcenbkclpbaaDoorGame
import Derived.Test.YtdfgcenbkclpbaaDoorRows
import Derived.WalkKit
import Derived.ProofKit
import Derived.OpenShut
namespace Go.Proofs.YtdfgcenbkclpbaaDoor
open Go.RowKit Go.ChangeShapes Go.WideShapes Go.ChangeAt
set_option linter.unusedSimpArgs false
set_option linter.unusedVariables false
variable {H : Type} {enc : TypeId × Value → H}
theorem cells4 {w : World} {a : Addr} {cs : List Value} (h : w.cells? 0 a 4 = some cs) : ∃ c0 c1 c2 c3, cs = [c0, c1, c2, c3] ∧ w.cell? (a.add 0) = some c0 ∧ w.cell? (a.add 1) = some c1 ∧ w.cell? (a.add 2) = some c2 ∧ w.cell? (a.add 3) = some c3 := by
  unfold World.cells? at h
  rw [if_pos (Nat.zero_le _), show List.range 4 = [0, 1, 2, 3] from rfl] at h
  cases h0 : w.cell? (a.add 0) with
  | none => simp [h0] at h
  | some c0 =>
    cases h1 : w.cell? (a.add 1) with
    | none => simp [h0, h1] at h
    | some c1 =>
      cases h2 : w.cell? (a.add 2) with
      | none => simp [h0, h1, h2] at h
      | some c2 =>
        cases h3 : w.cell? (a.add 3) with
        | none => simp [h0, h1, h2, h3] at h
        | some c3 =>
          simp [h0, h1, h2, h3] at h
          exact ⟨c0, c1, c2, c3, h.symm, rfl, rfl, rfl, rfl⟩
theorem IsRow.none_cap {k : IntKind} {w : World} {len cap : Nat} {zs : List Int} (h : IsRow k w none len cap zs) : len = 0 ∧ cap = 0 := by
  rcases h with ⟨_, rfl, rfl, _⟩ | ⟨_, h, _⟩
  · exact ⟨rfl, rfl⟩
  · cases h
theorem open_op {w : World} {held : Bool} {fuel : Nat} {cs : List Value} {x : DataW H × List MemPlace} {c0 c1 c2 c3 : Value} (hcs : cs = [c0, c1, c2, c3]) (h : DataW.trod enc Tryd.prog w 0 (fun _ => true) held fuel 45 cs = some x) (hw : ∀ q ∈ x.1.weights Tryd.prog 45, q ≤ reachBytes) :
    ∃ o : OpP, c0 = .int .u8 o.kind ∧ c1 = .int .u8 o.group ∧ c2 = .slice o.a o.b.length o.cap ∧ c3 = .int .u16 o.more ∧ OpOk w o ∧ o.b.length ≤ 140737488355328 := by
  have k1 : Tryd.prog.cellsOf 5 = 1 := by kernel_rfl
  have k2 : Tryd.prog.cellsOf 22 = 1 := by kernel_rfl
  have k3 : Tryd.prog.cellsOf 43 = 1 := by kernel_rfl
  have k4 : Tryd.prog.bytesOf 5 = 1 := by kernel_rfl
  subst hcs
  obtain ⟨xs, n, _, hx, _, hlen, hf⟩ := DataW.trod_struct Tryd.underlying45 h
  match xs, hlen with
  | [x0, x1, x2, x3], _ =>
    have f0 := hf 0 _ rfl
    have f1 := hf 1 _ rfl
    have f2 := hf 2 _ rfl
    have f3 := hf 3 _ rfl
    simp [k1, k2, k3] at f0 f1 f2 f3
    rw [hx] at hw
    have hw2 : ∀ q ∈ x2.1.weights Tryd.prog 22, q ≤ reachBytes := fun q hq => by
      refine hw q ?_
      simp only [DataW.weights, Tryd.underlying45]
      simp only [List.map_cons, List.map_nil, DataW.weightsEach]
      simp
      exact Or.inr (Or.inr (Or.inl hq))
    obtain ⟨n0, e0, _, w0⟩ := DataW.trod_int Tryd.underlying5 f0
    obtain ⟨n1, e1, _, w1⟩ := DataW.trod_int Tryd.underlying5 f1
    obtain ⟨n3, e3, _, w3⟩ := DataW.trod_int Tryd.underlying43 f3
    simp at e0 e1 e3
    have b0 := wf_u8 w0
    have b1 := wf_u8 w1
    have b3 := bounds_u16 w3
    obtain ⟨m0, rfl⟩ : ∃ m : Nat, n0 = (m : Int) := ⟨n0.toNat, by omega⟩
    obtain ⟨m1, rfl⟩ : ∃ m : Nat, n1 = (m : Int) := ⟨n1.toNat, by omega⟩
    obtain ⟨m3, rfl⟩ : ∃ m : Nat, n3 = (m : Int) := ⟨n3.toNat, by omega⟩
    obtain ⟨a2, len2, cap2, z2, e2, hrow, hl2⟩ : ∃ a len cap zs, c2 = .slice a len cap ∧ IsRow .u8 w a len cap zs ∧ len ≤ 140737488355328 := by
      rcases open_ints Tryd.underlying22 Tryd.underlying5 (by kernel_rfl) f2 with ⟨hcs, _⟩ | ⟨ad, l, c, zs, hcs, _, hl, hm, hz, hx2, hcell, hwz⟩
      · simp at hcs
        exact ⟨none, 0, 0, [], hcs, .inl ⟨rfl, rfl, rfl, rfl⟩, by omega⟩
      · simp at hcs
        have hlb : l ≤ 140737488355328 := by
          have := hw2 ((zs.take l).length + (zs.drop l).length) (by
            rw [hx2]
            simp [DataW.weights, Tryd.underlying22, k4, lits])
          unfold reachBytes at this
          rw [List.length_take, List.length_drop] at this
          have hzl : l ≤ zs.length := by rw [hz]; split <;> omega
          omega
        exact ⟨some ad, l, c, zs, hcs, .inr ⟨_, rfl, hl, hm, by simpa using hz, hcell, hwz⟩, hlb⟩
    obtain ⟨bb, rfl, hbl, hS⟩ := hrow.bytes
    refine ⟨⟨m0, m1, bb, a2, cap2, m3⟩, e0, e1, e2, e3, ⟨hS, fun e => ?_, by simp only; omega, by simp only; omega, by simp only; omega⟩, hl2⟩
    simp only at e
    subst e
    exact IsRow.none_cap hrow
theorem weightsAll_mem {P : Program} {e : TypeId} : ∀ {l : List (DataW H)} {d : DataW H}, d ∈ l → ∀ q ∈ d.weights P e, q ∈ DataW.weightsAll P e l
  | [], _, h, _, _ => by simp at h
  | y :: r, d, h, q, hq => by
    unfold DataW.weightsAll
    rw [List.mem_append]
    rcases List.mem_cons.1 h with rfl | h
    · exact Or.inl hq
    · exact Or.inr (weightsAll_mem h q hq)
theorem collect {P : Nat → OpP → Prop} : ∀ n, (∀ i, i < n → ∃ o, P i o) → ∃ l : List OpP, l.length = n ∧ ∀ i x, l[i]? = some x → P i x
  | 0, _ => ⟨[], rfl, by simp⟩
  | n + 1, h => by
    obtain ⟨l, hl, hp⟩ := collect n fun i hi => h i (by omega)
    obtain ⟨o, ho⟩ := h n (by omega)
    refine ⟨l ++ [o], by simp [hl], fun i x hx => ?_⟩
    by_cases hi : i < l.length
    · rw [List.getElem?_append_left hi] at hx; exact hp i x hx
    · rw [List.getElem?_append_right (by omega)] at hx
      have hi2 : i - l.length = 0 := by
        have := (List.getElem?_eq_some_iff.1 hx).1
        simp at this; exact Nat.sub_eq_zero_of_le (by omega)
      rw [hi2] at hx
      simp at hx
      subst hx
      rw [show i = n by omega]; exact ho
theorem rows_inv {l : List OpP} {q : Nat} {v : Value} (h : (rows OpP.cells l)[q]? = some v) : ∃ x, l[q / 4]? = some x ∧ x.cells[q % 4]? = some v := by
  have hq := (List.getElem?_eq_some_iff.1 h).1
  rw [rows_length opcells_len] at hq
  obtain ⟨x, hx⟩ : ∃ x, l[q / 4]? = some x := ⟨_, List.getElem?_eq_getElem (by omega)⟩
  have hc : x.cells[q % 4]? = some (x.cells[q % 4]'(by rw [opcells_len]; omega)) := List.getElem?_eq_getElem _
  have := rows_at opcells_len hx hc
  rw [show 4 * (q / 4) + q % 4 = q by omega, h] at this
  exact ⟨x, hx, by rw [hc, this]⟩
/-- a row of calls, as it is read -/
theorem open_ops {w : World} {held : Bool} {fuel : Nat} {cs : List Value} {x : DataW H × List MemPlace} {A : Option Addr} {len cap : Nat} (hcs : cs = [.slice A len cap]) (h : DataW.trod enc Tryd.prog w 0 (fun _ => true) held fuel 39 cs = some x) (hw : ∀ q ∈ x.1.weights Tryd.prog 39, q ≤ reachBytes) :
    ∃ l : List OpP, len = l.length ∧ l.length ≤ 9223372036854775807 ∧ OpsAt w A l := by
  have k4 : Tryd.prog.cellsOf 45 = 4 := by kernel_rfl
  rcases DataW.trod_slice Tryd.underlying39 h with ⟨h0, _⟩ | ⟨a, len', cap', elems, rest, n, _, hc2, hx, _, hl, hm, hlen, hel, _, _⟩
  · rw [hcs] at h0
    simp at h0
    obtain ⟨rfl, rfl, rfl⟩ := h0
    exact ⟨[], rfl, by simp, .nil _ _, by simp, by simp⟩
  · rw [hcs] at hc2
    simp at hc2
    obtain ⟨rfl, rfl, rfl⟩ := hc2
    rw [hx] at hw
    have each : ∀ i, i < len → ∃ o : OpP, (∀ j v, o.cells[j]? = some v → w.cell? (a.add (4 * i + j)) = some v) ∧ OpOk w o ∧ o.b.length ≤ 140737488355328 := fun i hi => by
      have hb := hel i hi
      rw [k4] at hb
      obtain ⟨y, hy⟩ : ∃ y, elems[i]? = some y := ⟨_, List.getElem?_eq_getElem (by omega)⟩
      rw [hy, Option.bind_eq_some_iff] at hb
      obtain ⟨cs', hcs', hy'⟩ := hb
      obtain ⟨c0, c1, c2, c3, e, g0, g1, g2, g3⟩ := cells4 hcs'
      obtain ⟨o, o0, o1, o2, o3, hok, hlo⟩ := open_op e hy' (fun q hq => hw q (by
        simp only [DataW.weights, Tryd.underlying39]
        rw [List.mem_cons, List.mem_append]
        exact Or.inr (Or.inl (weightsAll_mem (List.mem_map.2 ⟨y, List.mem_of_getElem? hy, rfl⟩) q hq))))
      refine ⟨o, fun j v hv => ?_, hok, hlo⟩
      have hj : j < 4 := by have := (List.getElem?_eq_some_iff.1 hv).1; exact this
      rw [Addr.add_add, Nat.mul_comm i 4] at g0 g1 g2 g3
      match j, hj, hv with
      | 0, _, hv => simp [OpP.cells] at hv; subst hv; rw [g0, o0]
      | 1, _, hv => simp [OpP.cells] at hv; subst hv; rw [g1, o1]
      | 2, _, hv => simp [OpP.cells] at hv; subst hv; rw [g2, o2]
      | 3, _, hv => simp [OpP.cells] at hv; subst hv; rw [g3, o3]
    obtain ⟨l, hll, hp⟩ := collect len each
    refine ⟨l, hll.symm, by unfold maxLen at hm; omega, ?_, fun x hx => ?_, fun x hx => ?_⟩
    · by_cases hz : len = 0
      · have : l = [] := List.length_eq_zero_iff.1 (by omega)
        subst this
        exact .nil _ _
      · have hsp : a.spot = none := by
          obtain ⟨o, h1, _⟩ := each 0 (by omega)
          have := h1 0 _ rfl
          obtain ⟨b, off, sp⟩ := a
          cases sp with
          | none => rfl
          | some p => unfold World.cell? Addr.add at this; simp at this; split at this <;> simp at this
        obtain ⟨b, off, sp⟩ := a
        simp only at hsp
        subst hsp
        refine .mk' fun q v hv => ?_
        obtain ⟨x, hx, hc⟩ := rows_inv hv
        have := (hp _ x hx).1 _ v hc
        rw [Addr.add_mid', show 4 * (q / 4) + q % 4 = q by omega] at this
        exact this
    · obtain ⟨i, hi⟩ := List.getElem?_of_mem hx
      exact (hp i x hi).2.1
    · obtain ⟨i, hi⟩ := List.getElem?_of_mem hx
      exact (hp i x hi).2.2
theorem sized_each {P : Program} : ∀ {ts : List TypeId} {ds : List (DataW H)} {j : Nat} {t : TypeId} {d : DataW H}, (DataW.weightsEach P ts ds).all (· ≤ reachBytes) = true → ts[j]? = some t → ds[j]? = some d → ∀ q ∈ d.weights P t, q ≤ reachBytes
  | [], _, _, _, _, _, h, _, _, _ => by simp at h
  | _ :: _, [], _, _, _, _, _, h, _, _ => by simp at h
  | t :: ts, d :: ds, 0, t', d', ha, ht, hd, q, hq => by
    simp at ht hd; subst ht; subst hd
    unfold DataW.weightsEach at ha
    rw [List.all_append, Bool.and_eq_true] at ha
    have := List.all_eq_true.1 ha.1 q hq
    simpa using this
  | t :: ts, d :: ds, j + 1, t', d', ha, ht, hd, q, hq => by
    unfold DataW.weightsEach at ha
    rw [List.all_append, Bool.and_eq_true] at ha
    exact sized_each ha.2 (by simpa using ht) (by simpa using hd) q hq
end Go.Proofs.YtdfgcenbkclpbaaDoor
