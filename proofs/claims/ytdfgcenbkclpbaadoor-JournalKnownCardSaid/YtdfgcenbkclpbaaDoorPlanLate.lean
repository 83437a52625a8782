/- Regions whose last operation, which waits for all the others, stores over what the others read. -/
import Derived.Test.YtdfgcenbkclpbaaDoorPlan
namespace Go.Proofs.YtdfgcenbkclpbaaDoor
open Go.RowKit
set_option linter.unusedSimpArgs false
set_option linter.unusedVariables false
section
variable {P : Program} {ops : Array Oper} {Q : Exit → Act → World → Prop} {md : Region.Mode} {S : World → Prop} {c : Nat}
/-- whatever order is picked, and S holds behind every operation but c -/
def wpAnyU (P : Program) (md : Region.Mode) (ops : Array Oper) (Q : Exit → Act → World → Prop) (S : World → Prop) (c : Nat) : Nat → Array Bool → Act → World → Prop
  | 0, listed, a, w => Region.ready md ops listed = [] ∧ Q .normal a w
  | fuel + 1, listed, a, w =>
    (Region.ready md ops listed = [] → Q .normal a w) ∧
    ∀ i ∈ Region.ready md ops listed, wpOp P ops Q i (fun a' w' => (i ≠ c → S w') ∧ wpAnyU P md ops Q S c fuel (listed.setIfInBounds i true) a' w') a w
theorem wpAny_of_U : ∀ (fuel : Nat) (listed : Array Bool) (a : Act) (w : World), wpAnyU P md ops Q S c fuel listed a w → wpAny P md ops Q fuel listed a w
  | 0, _, _, _, h => h
  | fuel + 1, _, _, _, h => ⟨h.1, fun i hi => wpOp_mono (fun a' w' h' => wpAny_of_U fuel _ a' w' h'.2) (h.2 i hi)⟩
theorem wpAnyU_first {i : Nat} {oi : Oper} {v : Value} (hi : ops[i]? = some oi) (hsel : ∀ (j : Nat) (o : Oper) cs b, ops[j]? = some o → o.op ≠ .select cs b)
    (hic : i ≠ c) (hcw : ∀ oc, ops[c]? = some oc → ∃ e ∈ oc.after, Region.binds md e = true ∧ e.on = i)
    (hQ : ∀ c a w, Q (.panic c) (a.put oi.dst v) w → Q (.panic c) a w) :
    ∀ (fuel : Nat) (listed : Array Bool) (a : Act) (w : World),
      (∀ j oj, ops[j]? = some oj → j ≠ i → listed.getD j true = false → (∀ e ∈ oj.after, Region.binds md e = true → e.on ≠ i) → oi.apart ops oj = true) →
      i ∈ Region.ready md ops listed → YieldsIf P ops S oi v a → S w →
      wpAnyU P md ops Q S c fuel (listed.setIfInBounds i true) (a.put oi.dst v) w → wpAnyU P md ops Q S c (fuel + 1) listed a w := by
  intro fuel
  induction fuel with
  | zero =>
    intro listed a w _ hr hy hS H
    refine ⟨fun h => (by rw [h] at hr; cases hr), fun j hj => ?_⟩
    by_cases hji : j = i
    · subst hji; exact hy.wpOp hi hS ⟨fun _ => hS, H⟩
    · have := ready_mono hj hji
      rw [H.1] at this
      cases this
  | succ fuel ih =>
    intro listed a w hfree hr hy hS H
    refine ⟨fun h => (by rw [h] at hr; cases hr), fun j hj => ?_⟩
    by_cases hji : j = i
    · subst hji; exact hy.wpOp hi hS ⟨fun _ => hS, H⟩
    · have h1 := H.2 j (ready_mono hj hji)
      obtain ⟨hjun, oj, hoj, hall⟩ := mem_ready.1 hj
      have hnot : ∀ e ∈ oj.after, Region.binds md e = true → e.on ≠ i := fun e he hb heq => by
        have h1 := hall e he hb
        have h0 := (mem_ready.1 hr).1
        rw [heq] at h1
        rcases Nat.lt_or_ge i listed.size with h' | h'
        · simp [h'] at h0 h1; rw [h0] at h1; cases h1
        · simp [Array.getElem?_eq_none h'] at h1
      have hjc : j ≠ c := fun e => by
        subst e
        obtain ⟨e, he, hb, hon⟩ := hcw oj hoj
        exact hnot e he hb hon
      have h2 := wpOp_putIf hoj (hfree j oj hoj hji hjun hnot) (fun cs b => hsel i oi cs b hi) (fun cs b => hsel j oj cs b hoj) hQ hy h1
      have hfree' : ∀ k ok, ops[k]? = some ok → k ≠ i → (listed.setIfInBounds j true).getD k true = false →
          (∀ e ∈ ok.after, Region.binds md e = true → e.on ≠ i) → oi.apart ops ok = true := fun k ok hk hki hun hno => by
        refine hfree k ok hk hki ?_ hno
        by_cases hjk : j = k
        · subst hjk; exact hjun
        · rw [getD_set_ne true hjk] at hun; exact hun
      refine wpOp_mono (fun a' w' h3 => ⟨h3.2.1, ih (listed.setIfInBounds j true) a' w' hfree' (ready_mono hr (Ne.symm hji)) h3.1 (h3.2.1 hjc) ?_⟩) h2
      rw [Array.setIfInBounds_comm _ _ hji]
      exact h3.2.2
theorem wpAnyU_all {rs : List Nat} {fuel : Nat} {listed : Array Bool} {a : Act} {w : World} (hr : Region.ready md ops listed = rs) (hne : rs ≠ [])
    (h : ∀ i ∈ rs, wpOp P ops Q i (fun a' w' => (i ≠ c → S w') ∧ wpAnyU P md ops Q S c fuel (listed.setIfInBounds i true) a' w') a w) : wpAnyU P md ops Q S c (fuel + 1) listed a w :=
  ⟨fun h0 => absurd (hr ▸ h0) hne, hr ▸ h⟩
theorem wpAnyU_done {listed : Array Bool} {a : Act} {w : World} (hr : Region.ready md ops listed = []) (h : Q .normal a w) : ∀ fuel, wpAnyU P md ops Q S c fuel listed a w
  | 0 => ⟨hr, h⟩
  | _ + 1 => ⟨fun _ => h, by rw [hr]; simp⟩
end
section
variable {P : Program} {l : List Oper} {Q : Exit → Act → World → Prop} {S : World → Prop} {c : Nat}
/-- does c wait for i, by an edge of its own? -/
def waitsFor (ops : Array Oper) (c i : Nat) : Bool := match ops[c]? with | some oc => oc.after.any fun e => Region.binds .any e && (e.on == i) | none => true
/-- a plan at whose end c comes -/
def planOkU (ops : Array Oper) (c : Nat) : Nat → Array Bool → List Move → Bool
  | _, listed, [] => (Region.ready .any ops listed).isEmpty
  | 0, _, _ :: _ => false
  | n + 1, listed, m :: rest =>
    (if m.pure then Region.free .any ops listed m.on && (Region.ready .any ops listed).contains m.on && (m.on != c) && waitsFor ops c m.on else Region.ready .any ops listed == [m.on]) &&
    planOkU ops c n (listed.setIfInBounds m.on true) rest
def wpPlanU (P : Program) (l : List Oper) (Q : Exit → Act → World → Prop) (S : World → Prop) (c : Nat) : List Move → Act → World → Prop
  | [], a, w => Q .normal a w
  | m :: rest, a, w =>
    match l[m.on]? with
    | none => False
    | some o =>
      if m.pure then S w ∧ ∃ v, YieldsIf P l.toArray S o v a ∧ wpPlanU P l Q S c rest (a.put o.dst v) w
      else wpOp P l.toArray Q m.on (fun a' w' => (m.on ≠ c → S w') ∧ wpPlanU P l Q S c rest a' w') a w
theorem planU_sound {K : Act → World → Prop} (hs : Region.noSelect l.toArray = true) : ∀ (n : Nat) (listed : Array Bool) (ms : List Move) (a : Act) (w : World), planOkU l.toArray c n listed ms = true →
    wpPlanU P l (onward K) S c ms a w → wpAnyU P .any l.toArray (onward K) S c n listed a w := by
  intro n
  induction n with
  | zero =>
    intro listed ms a w hk h
    cases ms with
    | nil => exact wpAnyU_done (by simpa [planOkU] using hk) h 0
    | cons m rest => simp [planOkU] at hk
  | succ n ih =>
    intro listed ms a w hk h
    cases ms with
    | nil => exact wpAnyU_done (by simpa [planOkU] using hk) h _
    | cons m rest =>
      simp only [planOkU, Bool.and_eq_true] at hk
      obtain ⟨h1, h2⟩ := hk
      simp only [wpPlanU] at h
      cases ho : l[m.on]? with
      | none => rw [ho] at h; exact h.elim
      | some o =>
        rw [ho] at h
        have ho' : l.toArray[m.on]? = some o := by simpa using ho
        by_cases hp : m.pure = true
        · simp only [hp, if_true, Bool.and_eq_true] at h h1
          obtain ⟨hS, v, hy, h⟩ := h
          obtain ⟨⟨⟨h11, h12⟩, h13⟩, h14⟩ := h1
          have hw : ∀ oc, l.toArray[c]? = some oc → ∃ e ∈ oc.after, Region.binds .any e = true ∧ e.on = m.on := fun oc hoc => by
            unfold waitsFor at h14
            rw [hoc] at h14
            simp only [Array.any_eq_true'] at h14
            obtain ⟨e, he, hb⟩ := h14
            simp only [Bool.and_eq_true, beq_iff_eq] at hb
            exact ⟨e, he, hb.1, hb.2⟩
          exact wpAnyU_first ho' (Region.noSelect_spec hs) (by simpa using h13) hw (fun c a w hq => hq.elim) n _ _ _ (Region.free_spec ho' h11) (by simpa using h12) hy hS (ih _ _ _ _ h2 h)
        · have hp' : m.pure = false := by simpa using hp
          simp only [hp', Bool.false_eq_true, if_false] at h h1
          refine wpAnyU_all (rs := [m.on]) (by simpa using h1) (by simp) fun i hi => ?_
          obtain rfl : i = m.on := by simpa using hi
          exact wpOp_mono (fun a' w' hh => ⟨hh.1, ih _ _ _ _ h2 hh.2⟩) h
/-- the obligations, leg by leg: behind the last operation c nothing is asked of the world -/
def wpLegsU (P : Program) (l : List Oper) (K : Act → World → Prop) (S : World → Prop) (c : Nat) : List Leg → Act → World → Prop
  | [], a, w => K a w
  | g :: rest, a, w => S w ∧ ∃ A, (∀ w', S w' → wpList P l.toArray (atEnd A w') (pick l g.row) a w') ∧ rowOk P l.toArray A (pick l g.row) = true ∧
    match g.on with
    | none => wpLegsU P l K S c rest A w
    | some i => wpList P l.toArray (onward fun a' w' => (i ≠ c → S w') ∧ wpLegsU P l K S c rest a' w') (pick l [i]) A w
theorem planU_row {K : Act → World → Prop} {A : Act} {w : World} (hS : S w) (rest : List Move) (h : wpPlanU P l (onward K) S c rest A w) : ∀ (js : List Nat) (a : Act), js.all (· < l.length) = true → chain P l.toArray S A (pick l js) a →
    wpPlanU P l (onward K) S c (js.map (⟨true, ·⟩) ++ rest) a w
  | [], a, _, hc => by obtain rfl : a = A := hc; exact h
  | i :: js, a, hi, hc => by
    simp only [List.all_cons, Bool.and_eq_true, decide_eq_true_eq] at hi
    have ho : l[i]? = some l[i] := List.getElem?_eq_getElem hi.1
    simp only [pick, nthOp_eq, ho, chain] at hc
    obtain ⟨v, hy, hc⟩ := hc
    simp only [List.map_cons, List.cons_append, wpPlanU, ho, if_true]
    exact ⟨hS, v, hy, planU_row hS rest h js _ hi.2 hc⟩
theorem legsU_sound {K : Act → World → Prop} : ∀ (gs : List Leg) (a : Act) (w : World), allIn l gs = true → wpLegsU P l K S c gs a w → wpPlanU P l (onward K) S c (gs.flatMap Leg.moves) a w
  | [], a, w, _, h => h
  | g :: rest, a, w, hi, h => by
    simp only [allIn, List.all_cons, Bool.and_eq_true] at hi
    obtain ⟨hS, A, h1, h2, h3⟩ := h
    have hc := row_sound hS _ _ h2 h1
    obtain ⟨row, on⟩ := g
    simp only [List.flatMap_cons, Leg.moves, List.append_assoc]
    refine planU_row hS _ ?_ row a hi.1.1 hc
    cases on with
    | none => exact legsU_sound rest A w hi.2 h3
    | some i =>
      simp only [List.singleton_append, wpPlanU]
      simp only [pick, nthOp_eq] at h3
      cases ho : l[i]? with
      | none =>
        have := hi.1.2
        simp only [decide_eq_true_eq] at this
        rw [List.getElem?_eq_getElem this] at ho
        cases ho
      | some o =>
        rw [ho] at h3
        have ho' : l.toArray[i]? = some o := by simpa using ho
        simp only [Bool.false_eq_true, if_false, wpOp, ho']
        simp only [wpList] at h3
        split
        · rename_i hw
          rw [hw] at h3
          simp only [if_true] at h3
          rcases h3 with h3 | ⟨_, h3⟩
          · exact .inl (wp_onward (Oper.wp_mono (fun a' w' hh => ⟨hh.1, legsU_sound rest a' w' hi.2 hh.2⟩) h3))
          · exact absurd h3 (not_out _)
        · rename_i hw
          simp only [hw] at h3
          exact ⟨h3.1, legsU_sound rest _ _ hi.2 h3.2⟩
/-- THE BEGINNING -/
theorem wp_region_legsU {id : Nat} {a : Act} {w : World} (S : World → Prop) (c : Nat) (gs : List Leg) (hm : P.follows .mixedOrders = true) (hs : (Region.noSelect l.toArray && allIn l gs && planOkU l.toArray c l.length (Array.replicate l.length false) (gs.flatMap Leg.moves)) = true)
    (h : wpLegsU P l (fun a' w' => Q .normal a' w') S c gs a w.drew) : (Code.region id l.toArray true).wp P Q a w := by
  simp only [Bool.and_eq_true] at hs
  refine wp_mono (wp_region_any hm (Q := onward fun a' w' => Q .normal a' w') ?_) fun e a w hq => by cases e <;> first | exact hq | exact hq.elim
  have := planU_sound (P := P) (S := S) (c := c) hs.1.1 l.length (Array.replicate l.length false) _ a w.drew hs.2 (legsU_sound gs a w.drew hs.1.2 h)
  exact wpAny_of_U _ _ _ _ (by simpa using this)
theorem legsU_on {K : Act → World → Prop} {row : List Nat} {i : Nat} {rest : List Leg} {a : Act} {w : World} (A : Act) (hS : S w)
    (h1 : ∀ w', S w' → wpList P l.toArray (atEnd A w') (pick l row) a w') (h2 : rowOk P l.toArray A (pick l row) = true)
    (h3 : wpList P l.toArray (onward fun a' w' => (i ≠ c → S w') ∧ wpLegsU P l K S c rest a' w') (pick l [i]) A w) : wpLegsU P l K S c (⟨row, some i⟩ :: rest) a w := ⟨hS, A, h1, h2, h3⟩
theorem legsU_row {K : Act → World → Prop} {row : List Nat} {rest : List Leg} {a : Act} {w : World} (A : Act) (hS : S w)
    (h1 : ∀ w', S w' → wpList P l.toArray (atEnd A w') (pick l row) a w') (h2 : rowOk P l.toArray A (pick l row) = true)
    (h3 : wpLegsU P l K S c rest A w) : wpLegsU P l K S c (⟨row, none⟩ :: rest) a w := ⟨hS, A, h1, h2, h3⟩
theorem legsU_next {K : Act → World → Prop} {i : Nat} {rest : List Leg} {a : Act} {w : World} (h1 : S w) (h2 : wpLegsU P l K S c rest a w) : onward (fun a' w' => (i ≠ c → S w') ∧ wpLegsU P l K S c rest a' w') .normal a w := ⟨fun _ => h1, h2⟩
theorem legsU_last {K : Act → World → Prop} {a : Act} {w : World} (h2 : K a w) : onward (fun a' w' => (c ≠ c → S w') ∧ wpLegsU P l K S c [] a' w') .normal a w := ⟨fun h => absurd rfl h, h2⟩
end
end Go.Proofs.YtdfgcenbkclpbaaDoor
