/- A statement whose order Go leaves open, where all that reads comes ahead of all that writes: it may be walked in a row, in the world at hand. -/
import Derived.Test.YtdfgcenbkclpbaaDoorPlan
namespace Go.Proofs.YtdfgcenbkclpbaaDoor
open Go.RowKit
set_option linter.unusedVariables false
set_option linter.unusedSimpArgs false
section
variable {P : Program} {ops : Array Oper} {Q : Exit → Act → World → Prop}

/-- all that a number waits for has come -/
def Waited (ops : Array Oper) (listed : Array Bool) (k : Nat) : Prop := ∃ o, ops[k]? = some o ∧ ∀ e ∈ o.after, Region.binds .any e = true → listed.getD e.on false = true
/-- what has come waited for what has come -/
def Closed (ops : Array Oper) (listed : Array Bool) : Prop := ∀ k, listed.getD k false = true → Waited ops listed k
/-- each of these waits for i, or for one behind it in the list -/
def barred (ops : Array Oper) (i : Nat) : List Nat → Bool
  | [] => true
  | k :: B => (match ops[k]? with | some o => o.after.any (fun e => Region.binds .any e && (e.on == i || B.contains e.on)) | none => true) && barred ops i B
theorem barred_spec {listed : Array Bool} (hc : Closed ops listed) {i : Nat} (hi : listed.getD i false = false) : ∀ (B : List Nat), barred ops i B = true → ∀ k ∈ B, ¬ Waited ops listed k
  | [], _, k, hk => by cases hk
  | b :: B, hb, k, hk => by
    simp only [barred, Bool.and_eq_true] at hb
    obtain ⟨h1, h2⟩ := hb
    rcases List.mem_cons.1 hk with rfl | hk
    · rintro ⟨o, ho, hall⟩
      rw [ho] at h1
      obtain ⟨e, he, hx⟩ := Array.any_eq_true'.1 h1
      simp only [Bool.and_eq_true, Bool.or_eq_true, beq_iff_eq] at hx
      have hl := hall e he hx.1
      rcases hx.2 with rfl | hx
      · rw [hi] at hl; cases hl
      · exact barred_spec hc hi B h2 e.on (by simpa using hx) (hc _ hl)
    · exact barred_spec hc hi B h2 k hk
/-- the numbers that wait for i -/
def waiters (ops : Array Oper) (i : Nat) : List Nat :=
  (List.range ops.size).foldl (fun B k => match ops[k]? with
    | some o => if o.after.any (fun e => Region.binds .any e && (e.on == i || B.contains e.on)) then k :: B else B
    | none => B) []
/-- THE CHECK of a row that is carried out in the world at hand: whatever else has not come yet waits for all of it; what one of them looks at, another one's temporary, it waits for -/
def hereOk (ops : Array Oper) (listed : Array Bool) (js : List Nat) : Bool :=
  js.Nodup && js.all (fun i => listed.getD i true == false && barred ops i (waiters ops i) &&
    (List.range ops.size).all (fun k => listed.getD k true || js.contains k || (waiters ops i).contains k) &&
    js.all fun k => k == i || match ops[i]?, ops[k]? with
      | some oi, some ok => (match ok.dst with
          | some d => oi.dst != some d && (!(oi.looksAt ops).contains d || oi.after.any fun e => Region.binds .any e && e.on == k)
          | none => false)
      | _, _ => false)
/-- .. and its order is one that may be -/
def orderOk (ops : Array Oper) : Array Bool → List Nat → Bool
  | _, [] => true
  | listed, i :: js => (Region.ready .any ops listed).contains i && orderOk ops (listed.setIfInBounds i true) js
def listAll (listed : Array Bool) (js : List Nat) : Array Bool := js.foldl (fun l i => l.setIfInBounds i true) listed
theorem listAll_size (listed : Array Bool) : ∀ js, (listAll listed js).size = listed.size := by
  intro js
  induction js generalizing listed with
  | nil => rfl
  | cons j js ih => rw [listAll, List.foldl_cons]; exact (ih _).trans (by simp)
theorem listAll_snoc (listed : Array Bool) (js : List Nat) (i : Nat) : (listAll listed js).setIfInBounds i true = listAll listed (js ++ [i]) := by simp [listAll]
theorem listAll_get (listed : Array Bool) : ∀ (js : List Nat) (k : Nat), (listAll listed js)[k]? = if k ∈ js ∧ k < listed.size then some true else listed[k]? := by
  intro js
  induction js generalizing listed with
  | nil => intro k; simp [listAll]
  | cons j js ih =>
    intro k
    rw [listAll, List.foldl_cons]
    have := ih (listed.setIfInBounds j true) k
    unfold listAll at this
    rw [this]
    simp only [Array.size_setIfInBounds, List.mem_cons]
    by_cases h1 : k ∈ js
    · by_cases h2 : k < listed.size <;> simp [h1, h2]
    · by_cases h2 : k = j
      · subst h2
        by_cases h3 : k < listed.size <;> simp [h1, h3]
      · have h3 : j ≠ k := fun e => h2 e.symm
        simp [h1, h2, Array.getElem?_setIfInBounds_ne h3]
theorem listAll_perm {listed : Array Bool} {js ks : List Nat} (h : ∀ k, k ∈ js ↔ k ∈ ks) : listAll listed js = listAll listed ks := by
  apply Array.ext_getElem?
  intro k
  rw [listAll_get, listAll_get]
  simp only [h k]
theorem ready_spec {listed : Array Bool} {k : Nat} : k ∈ Region.ready .any ops listed ↔ listed.getD k true = false ∧ Waited ops listed k := mem_ready
theorem closed_add {listed : Array Bool} (hc : Closed ops listed) {i : Nat} (hi : Waited ops listed i) : Closed ops (listed.setIfInBounds i true) := by
  intro k hk
  have mono : Waited ops listed k → Waited ops (listed.setIfInBounds i true) k := fun ⟨o, ho, hall⟩ => ⟨o, ho, fun e he hb => getD_set_true (hall e he hb)⟩
  by_cases hik : i = k
  · subst hik; exact mono hi
  · rw [getD_set_ne false hik] at hk
    exact mono (hc k hk)

/-- after these have come -/
structure Agree (ops : Array Oper) (V : Nat → Value) (a0 : Act) (E : List Nat) (a : Act) : Prop where
  defers : a.defers = a0.defers
  size : a.tmps.size = a0.tmps.size
  has : ∀ k ∈ E, ∀ d, (ops[k]?).bind (·.dst) = some d → d < a0.tmps.size → a.tmps[d]? = some (V k)
  rest : ∀ t, (∀ k ∈ E, (ops[k]?).bind (·.dst) ≠ some t) → a.tmps[t]? = a0.tmps[t]?
theorem Agree.nil (V : Nat → Value) (a0 : Act) : Agree ops V a0 [] a0 := ⟨rfl, rfl, (fun _ h => by cases h), fun _ _ => rfl⟩
theorem Agree.snoc {V : Nat → Value} {a0 a : Act} {E : List Nat} (h : Agree ops V a0 E a) {i : Nat} {o : Oper} (ho : ops[i]? = some o) (hd : ∀ k ∈ E, ∀ d, (ops[k]?).bind (·.dst) = some d → o.dst ≠ some d) :
    Agree ops V a0 (E ++ [i]) (a.put o.dst (V i)) := by
  refine ⟨?_, (put_size _ _ _).trans h.size, fun k hk d hkd hlt => ?_, fun t ht => ?_⟩
  · rw [← h.defers]; cases o.dst <;> rfl
  · rcases List.mem_append.1 hk with hk | hk
    · rw [put_tmps_other _ _ _ _ (hd k hk d hkd)]; exact h.has k hk d hkd hlt
    · obtain rfl : k = i := by simpa using hk
      rw [ho] at hkd
      simp only [Option.bind_some] at hkd
      rw [hkd]
      have hlt' : d < a.tmps.size := by rw [h.size]; exact hlt
      simp [Act.put, hlt']
  · rw [put_tmps_other _ _ _ _ (by have := ht i (by simp); rw [ho] at this; exact this)]
    exact h.rest t fun k hk => ht k (by simp [hk])
theorem Agree.ext {V : Nat → Value} {a0 a b : Act} {E F : List Nat} (h : Agree ops V a0 E a) (h' : Agree ops V a0 F b) (he : ∀ k, k ∈ E ↔ k ∈ F) : a = b := by
  have ht : a.tmps = b.tmps := by
    apply Array.ext_getElem?
    intro t
    by_cases hx : ∃ k ∈ E, (ops[k]?).bind (·.dst) = some t
    · obtain ⟨k, hk, hd⟩ := hx
      by_cases hlt : t < a0.tmps.size
      · rw [h.has k hk t hd hlt, h'.has k ((he k).1 hk) t hd hlt]
      · rw [Array.getElem?_eq_none (by rw [h.size]; exact Nat.le_of_not_lt hlt), Array.getElem?_eq_none (by rw [h'.size]; exact Nat.le_of_not_lt hlt)]
    · have hx' : ∀ k ∈ E, (ops[k]?).bind (·.dst) ≠ some t := fun k hk hd => hx ⟨k, hk, hd⟩
      rw [h.rest t hx', h'.rest t fun k hk => hx' k ((he k).2 hk)]
  have hd : a.defers = b.defers := h.defers.trans h'.defers.symm
  cases a; cases b; simp_all
/-- what a number looks at is there alike -/
theorem Agree.looks {V : Nat → Value} {a0 a b : Act} {E F : List Nat} (h : Agree ops V a0 E a) (h' : Agree ops V a0 F b) {ts : List Tmp}
    (hEF : ∀ t ∈ ts, ∀ k, (ops[k]?).bind (·.dst) = some t → (k ∈ E ↔ k ∈ F)) : ∀ t ∈ ts, a.tmps[t]? = b.tmps[t]? := by
  intro t ht
  by_cases hx : ∃ k ∈ E, (ops[k]?).bind (·.dst) = some t
  · obtain ⟨k, hk, hd⟩ := hx
    by_cases hlt : t < a0.tmps.size
    · rw [h.has k hk t hd hlt, h'.has k ((hEF t ht k hd).1 hk) t hd hlt]
    · rw [Array.getElem?_eq_none (by rw [h.size]; exact Nat.le_of_not_lt hlt), Array.getElem?_eq_none (by rw [h'.size]; exact Nat.le_of_not_lt hlt)]
  · have hx' : ∀ k ∈ E, (ops[k]?).bind (·.dst) ≠ some t := fun k hk hd => hx ⟨k, hk, hd⟩
    rw [h.rest t hx', h'.rest t fun k hk hd => hx' k ((hEF t ht k hd).2 hk) hd]

/-- the row's values, and where each was reckoned -/
def chainV (P : Program) (ops : Array Oper) (S : World → Prop) (A : Act) (V : Nat → Value) : List Nat → Act → Prop
  | [], a => a = A
  | i :: js, a => ∃ o, ops[i]? = some o ∧ YieldsIf P ops S o (V i) a ∧ chainV P ops S A V js (a.put o.dst (V i))
theorem chainV_congr {S : World → Prop} {A : Act} {V V' : Nat → Value} : ∀ (js : List Nat) (a : Act), (∀ k ∈ js, V k = V' k) → chainV P ops S A V js a → chainV P ops S A V' js a
  | [], _, _, h => h
  | i :: js, a, he, ⟨o, ho, hy, h⟩ => by
    have e := he i (by simp)
    refine ⟨o, ho, e ▸ hy, ?_⟩
    rw [← e]
    exact chainV_congr js _ (fun k hk => he k (by simp [hk])) h
theorem chain_values {l : List Oper} {S : World → Prop} {A : Act} : ∀ (js : List Nat) (a : Act), js.Nodup → js.all (· < l.length) = true → chain P l.toArray S A (pick l js) a → ∃ V, chainV P l.toArray S A V js a
  | [], a, _, _, h => ⟨fun _ => undef, h⟩
  | i :: js, a, hn, hi, h => by
    simp only [List.all_cons, Bool.and_eq_true, decide_eq_true_eq] at hi
    have ho : l[i]? = some l[i] := List.getElem?_eq_getElem hi.1
    simp only [pick, nthOp_eq, ho, chain] at h
    obtain ⟨v, hy, h⟩ := h
    obtain ⟨V, hV⟩ := chain_values js _ (List.nodup_cons.1 hn).2 hi.2 h
    refine ⟨fun k => if k = i then v else V k, l[i], by simp, (by simp only [if_true]; exact hy), ?_⟩
    simp only [if_true]
    refine chainV_congr js _ (fun k hk => ?_) hV
    rw [if_neg]
    rintro rfl
    exact (List.nodup_cons.1 hn).1 hk

theorem nodup_le : ∀ (E l : List Nat), E.Nodup → (∀ k ∈ E, k ∈ l) → E.length ≤ l.length
  | [], _, _, _ => Nat.zero_le _
  | x :: E, l, hn, hs => by
    obtain ⟨h1, h2⟩ := List.nodup_cons.1 hn
    have hx : x ∈ l := hs x (by simp)
    have := nodup_le E (l.erase x) h2 fun k hk => (List.mem_erase_of_ne (by rintro rfl; exact h1 hk)).2 (hs k (by simp [hk]))
    rw [List.length_erase_of_mem hx] at this
    have := List.length_pos_of_mem hx
    simp only [List.length_cons]; omega
theorem nodup_all {E l : List Nat} (hE : E.Nodup) (hs : ∀ k ∈ E, k ∈ l) (hl : l.length ≤ E.length) : ∀ k ∈ l, k ∈ E := fun k hk => by
  rcases Decidable.em (k ∈ E) with h | h
  · exact h
  · have := nodup_le E (l.erase k) hE fun j hj => (List.mem_erase_of_ne (by rintro rfl; exact h hj)).2 (hs j hj)
    rw [List.length_erase_of_mem hk] at this
    have := List.length_pos_of_mem hk
    omega
theorem first_out : ∀ (l E : List Nat), (∃ k ∈ l, k ∉ E) → ∃ pre r suf, l = pre ++ r :: suf ∧ r ∉ E ∧ ∀ k ∈ pre, k ∈ E
  | [], E, h => by obtain ⟨k, hk, _⟩ := h; cases hk
  | x :: l, E, h => by
    rcases Decidable.em (x ∈ E) with hx | hx
    · obtain ⟨k, hk, hn⟩ := h
      rcases List.mem_cons.1 hk with rfl | hk
      · exact absurd hx hn
      · obtain ⟨pre, r, suf, rfl, h1, h2⟩ := first_out l E ⟨k, hk, hn⟩
        exact ⟨x :: pre, r, suf, rfl, h1, fun j hj => by
          rcases List.mem_cons.1 hj with rfl | hj
          · exact hx
          · exact h2 j hj⟩
    · exact ⟨[], x, l, rfl, hx, by simp⟩
theorem unlisted_false {l : Array Bool} {k : Nat} (h : l.getD k true = false) : l.getD k false = false := by
  simp only [Array.getD_eq_getD_getElem?] at *
  cases hq : l[k]? with
  | none => rfl
  | some b => rw [hq] at h; exact h
theorem listAll_out {l : Array Bool} {E : List Nat} {k : Nat} (h : k ∉ E) (d : Bool) : (listAll l E).getD k d = l.getD k d := by
  have h2 := listAll_get l E k
  rw [if_neg (fun hh => h hh.1)] at h2
  simp only [Array.getD_eq_getD_getElem?, h2]
theorem listAll_in {l : Array Bool} {E : List Nat} {k : Nat} (h : k ∈ E) (hk : k < l.size) (d : Bool) : (listAll l E).getD k d = true := by
  have h2 := listAll_get l E k
  rw [if_pos ⟨h, hk⟩] at h2
  simp only [Array.getD_eq_getD_getElem?, h2]; rfl
/-- THE ROW IN THE WORLD AT HAND. -/
theorem here_sound {w : World} {A a0 : Act} {listed : Array Bool} {js : List Nat} {V : Nat → Value} (hs : Region.noSelect ops = true) (hk : hereOk ops listed js = true) (ho : orderOk ops listed js = true) (hc : Closed ops listed) (hin : ∀ k ∈ js, k < listed.size)
    (hV : chainV P ops (· = w) A V js a0) (f : Nat) (h : wpAny P .any ops Q f (listAll listed js) A w) : wpAny P .any ops Q (f + js.length) listed a0 w := by
  simp only [hereOk, Bool.and_eq_true, List.all_eq_true, decide_eq_true_eq] at hk
  obtain ⟨hnd, hk⟩ := hk
  -- every number's value, reckoned where those before it have come
  have hY : ∀ (pre suf : List Nat) (a : Act), js = pre ++ suf → Agree ops V a0 pre a → chainV P ops (· = w) A V suf a →
      (∀ i ∈ suf, ∃ F b o, ops[i]? = some o ∧ Agree ops V a0 F b ∧ YieldsIf P ops (· = w) o (V i) b ∧ (∃ s, js = F ++ i :: s)) ∧ Agree ops V a0 js A := by
    intro pre suf
    induction suf generalizing pre with
    | nil =>
      intro a hj ha hch
      refine ⟨(fun i hi => by cases hi), ?_⟩
      obtain rfl : a = A := hch
      rw [hj, List.append_nil]; exact ha
    | cons i suf ih =>
      intro a hj ha hch
      obtain ⟨o, hoi, hy, hch⟩ := hch
      have hi : i ∈ js := by rw [hj]; simp
      have hdist : ∀ k ∈ pre, ∀ d, (ops[k]?).bind (·.dst) = some d → o.dst ≠ some d := by
        intro k hkp d hkd
        have hkj : k ∈ js := by rw [hj]; simp [hkp]
        have hki : k ≠ i := by
          rintro rfl
          rw [hj] at hnd
          exact (List.nodup_append.1 hnd).2.2 k hkp k (by simp) rfl
        have := (hk i hi).2 k hkj
        rw [hoi] at this
        cases hkk : ops[k]? with
        | none => rw [hkk] at hkd; cases hkd
        | some ok =>
          rw [hkk] at hkd this
          simp only [Option.bind_some] at hkd
          simp only [hkd, Bool.or_eq_true, beq_iff_eq, hki, false_or, Bool.and_eq_true, bne_iff_ne] at this
          exact this.1
      have hA := ha.snoc hoi hdist
      obtain ⟨h1, h2⟩ := ih (pre ++ [i]) _ (by rw [hj]; simp) hA hch
      refine ⟨fun k hk' => ?_, h2⟩
      rcases List.mem_cons.1 hk' with rfl | hk'
      · exact ⟨pre, a, o, hoi, ha, hy, suf, hj⟩
      · exact h1 k hk'
  obtain ⟨hval, hfin⟩ := hY [] js a0 rfl (Agree.nil V a0) hV
  -- the order is one that may be
  have hord : ∀ (pre suf : List Nat) (i : Nat), js = pre ++ i :: suf → Waited ops (listAll listed pre) i := by
    have gen : ∀ (L : Array Bool) (ks : List Nat), orderOk ops L ks = true → ∀ (pre suf : List Nat) (i : Nat), ks = pre ++ i :: suf → Waited ops (listAll L pre) i := by
      intro L ks
      induction ks generalizing L with
      | nil => intro _ pre suf i he; simp at he
      | cons k ks ih =>
        intro hok pre suf i he
        simp only [orderOk, Bool.and_eq_true] at hok
        cases pre with
        | nil =>
          simp only [List.nil_append, List.cons.injEq] at he
          obtain ⟨rfl, _⟩ := he
          exact (ready_spec.1 (List.contains_iff_mem.1 hok.1)).2
        | cons p pre =>
          simp only [List.cons_append, List.cons.injEq] at he
          obtain ⟨rfl, he⟩ := he
          exact ih _ hok.2 pre suf i he
    exact gen listed js ho
  -- whatever of it has come
  suffices main : ∀ (n : Nat) (E : List Nat) (a : Act), E.Nodup → (∀ k ∈ E, k ∈ js) → E.length + n = js.length → Agree ops V a0 E a → Closed ops (listAll listed E) → wpAny P .any ops Q (f + n) (listAll listed E) a w by
    have := main js.length [] a0 (by simp) (by simp) (by simp) (Agree.nil V a0) hc
    exact this
  intro n
  induction n with
  | zero =>
    intro E a hE hsub hlen ha hcl
    have hperm : ∀ k, k ∈ E ↔ k ∈ js := fun k => ⟨hsub k, fun hkj => by
      exact nodup_all hE hsub (by omega) k hkj⟩
    rw [listAll_perm hperm, ha.ext hfin hperm]
    exact h
  | succ n ih =>
    intro E a hE hsub hlen ha hcl
    have hunl : ∀ i ∈ js, listed.getD i true = false := fun i hi => by have := (hk i hi).1.1.1; simpa using this
    have hget : ∀ (F : List Nat), (∀ k ∈ F, k ∈ js) → ∀ k, (listAll listed F).getD k false = true → k ∈ js → k ∈ F := fun F hF k hl hkj => by
      rcases Decidable.em (k ∈ F) with h | h
      · exact h
      · exfalso
        rw [listAll_out h, unlisted_false (hunl k hkj)] at hl
        cases hl
    have hun : ∀ k ∈ js, k ∉ E → (listAll listed E).getD k true = false := fun k hkj hkE => by
      rw [listAll_out hkE]; exact hunl k hkj
    obtain ⟨pre, r, suf, hjs, hrE, hpre⟩ := first_out js E (by
      rcases Decidable.em (∃ k ∈ js, k ∉ E) with h | h
      · exact h
      · exfalso
        have := nodup_le js E hnd fun k hkj => by
          rcases Decidable.em (k ∈ E) with h' | h'
          · exact h'
          · exact absurd ⟨k, hkj, h'⟩ h
        omega)
    have hrj : r ∈ js := by rw [hjs]; simp
    have hmono : ∀ k, (listAll listed pre).getD k false = true → (listAll listed E).getD k false = true := fun k hkk => by
      rcases Decidable.em (k ∈ pre) with hp | hp
      · exact listAll_in (hpre k hp) (hin k (by rw [hjs]; simp [hp])) _
      · rw [listAll_out hp] at hkk
        rcases Decidable.em (k ∈ E) with hq | hq
        · exact listAll_in hq (hin k (hsub k hq)) _
        · rw [listAll_out hq]; exact hkk
    have hrw : Waited ops (listAll listed E) r := by
      obtain ⟨o, hoo, hall⟩ := hord pre suf r hjs
      exact ⟨o, hoo, fun e he hb => hmono _ (hall e he hb)⟩
    have hrr : r ∈ Region.ready .any ops (listAll listed E) := ready_spec.2 ⟨hun r hrj hrE, hrw⟩
    rw [← Nat.add_assoc]
    refine ⟨fun h0 => (by rw [h0] at hrr; cases hrr), fun i hi => ?_⟩
    obtain ⟨hi1, hi2⟩ := ready_spec.1 hi
    -- it is one of the row
    have hir : i < ops.size := by obtain ⟨o, hoo, _⟩ := hi2; exact (Array.getElem?_eq_some_iff.1 hoo).1
    have hij : i ∈ js := by
      have h1 := (hk r hrj).1.2 i (List.mem_range.2 hir)
      simp only [Bool.or_eq_true, List.contains_iff_mem] at h1
      rcases h1 with (h1 | h1) | h1
      · exfalso
        rcases Decidable.em (i ∈ E) with hq | hq
        · rw [listAll_in hq (hin i (hsub i hq))] at hi1; cases hi1
        · rw [listAll_out hq, h1] at hi1; cases hi1
      · exact h1
      · exfalso
        have hr0 : (listAll listed E).getD r false = false := unlisted_false (hun r hrj hrE)
        exact barred_spec hcl hr0 _ (hk r hrj).1.1.2 i h1 hi2
    have hiE : i ∉ E := fun hh => by rw [listAll_in hh (hin i hij)] at hi1; cases hi1
    obtain ⟨F, b, o, hoi, hb, hy, s, hjF⟩ := hval i hij
    have hFsub : ∀ k ∈ F, k ∈ js := fun k hkF => by rw [hjF]; simp [hkF]
    have hwF := hord F s i hjF
    have direct : ∀ t ∈ o.looksAt ops, ∀ k, k ∈ js → k ≠ i → (ops[k]?).bind (·.dst) = some t → ∃ e ∈ o.after, Region.binds .any e = true ∧ e.on = k := fun t ht k hkj hki hd => by
      have h1 := (hk i hij).2 k hkj
      cases hkk : ops[k]? with
      | none => rw [hkk] at hd; cases hd
      | some ok =>
        rw [hkk] at hd h1
        simp only [Option.bind_some] at hd
        simp only [hoi, hd, Bool.or_eq_true, beq_iff_eq, hki, false_or, Bool.and_eq_true] at h1
        rcases h1.2 with h2 | h2
        · simp [ht] at h2
        · obtain ⟨e, he, hx⟩ := Array.any_eq_true'.1 h2
          simp only [Bool.and_eq_true, beq_iff_eq] at hx
          exact ⟨e, he, hx.1, hx.2⟩
    have hself : ∀ t ∈ o.looksAt ops, (ops[i]?).bind (·.dst) ≠ some t → True := fun _ _ _ => trivial
    have hiF : i ∉ F := fun hh => by
      rw [hjF] at hnd
      exact (List.nodup_append.1 hnd).2.2 i hh i (by simp) rfl
    have hlook := hb.looks ha (ts := o.looksAt ops) fun t ht k hd => by
      have both : ∀ (G : List Nat), (∀ k ∈ G, k ∈ js) → Waited ops (listAll listed G) i → k ∈ js → k ≠ i → k ∈ G := fun G hG ⟨o', ho', hall⟩ hkj hki => by
        rw [hoi] at ho'
        injection ho' with ho'
        subst ho'
        obtain ⟨e, he, hbn, rfl⟩ := direct t ht k hkj hki hd
        exact hget G hG _ (hall e he hbn) hkj
      constructor
      · intro hkF
        exact both E hsub hi2 (hFsub k hkF) (by rintro rfl; exact hiF hkF)
      · intro hkE
        exact both F hFsub hwF (hsub k hkE) (by rintro rfl; exact hiE hkE)
    have hsel : ∀ cs bl, o.op ≠ .select cs bl := fun cs bl => Region.noSelect_spec hs i o cs bl hoi
    have hya : YieldsIf P ops (· = w) o (V i) a := hy.of_same
      (execOp_congr o hsel fun x hx => eval_same fun t ht => (hlook t (looks_tmp (by rw [← ht]; exact hx))).symm)
      (wanted_same fun t ht => (hlook t ht).symm)
    refine hya.wpOp hoi rfl ?_
    rw [listAll_snoc]
    have hdist : ∀ k ∈ E, ∀ d, (ops[k]?).bind (·.dst) = some d → o.dst ≠ some d := fun k hkE d hd => by
      have hki : k ≠ i := by rintro rfl; exact hiE hkE
      have h1 := (hk i hij).2 k (hsub k hkE)
      cases hkk : ops[k]? with
      | none => rw [hkk] at hd; cases hd
      | some ok =>
        rw [hkk] at hd h1
        simp only [Option.bind_some] at hd
        simp only [hoi, hd, Bool.or_eq_true, beq_iff_eq, hki, false_or, Bool.and_eq_true, bne_iff_ne] at h1
        exact h1.1
    refine ih (E ++ [i]) _ ?_ ?_ ?_ (ha.snoc hoi hdist) ?_
    · rw [List.nodup_append]
      refine ⟨hE, by simp, fun x hx y hy => ?_⟩
      obtain rfl : y = i := by simpa using hy
      rintro rfl; exact hiE hx
    · intro k hkk
      rcases List.mem_append.1 hkk with hkk | hkk
      · exact hsub k hkk
      · obtain rfl : k = i := by simpa using hkk
        exact hij
    · simp; omega
    · rw [← listAll_snoc]; exact closed_add hcl hi2
end

/-! ### A region, row by row -/
/-- a row of operations that only compute or read (carried out in whatever world; or in the world at hand); then, if told, another operation -/
structure Part where
  here : Bool
  row : List Nat
  on : Option Nat
section
variable {P : Program} {l : List Oper} {Q : Exit → Act → World → Prop}
def rowAny (ops : Array Oper) : Array Bool → List Nat → Bool
  | _, [] => true
  | listed, i :: js => Region.free .any ops listed i && (Region.ready .any ops listed).contains i && rowAny ops (listed.setIfInBounds i true) js
def partsOk (l : List Oper) : Nat → Array Bool → List Part → Bool
  | _, listed, [] => (Region.ready .any l.toArray listed).isEmpty
  | n, listed, g :: rest =>
    decide (g.row.length + (if g.on.isSome then 1 else 0) ≤ n) && g.row.all (fun i => decide (i < l.length)) &&
    (if g.here then hereOk l.toArray listed g.row && orderOk l.toArray listed g.row else rowAny l.toArray listed g.row) &&
    match g.on with
    | none => partsOk l (n - g.row.length) (listAll listed g.row) rest
    | some i => decide (i < l.length) && Region.ready .any l.toArray (listAll listed g.row) == [i] && partsOk l (n - g.row.length - 1) ((listAll listed g.row).setIfInBounds i true) rest
/-- what is left to be shown, part by part -/
def wpParts (P : Program) (l : List Oper) (K : Act → World → Prop) : List Part → Act → World → Prop
  | [], a, w => K a w
  | g :: rest, a, w => ∃ A, (if g.here then wpList P l.toArray (atEnd A w) (pick l g.row) a w else ∀ w', wpList P l.toArray (atEnd A w') (pick l g.row) a w') ∧ rowOk P l.toArray A (pick l g.row) = true ∧
    match g.on with
    | none => wpParts P l K rest A w
    | some i => wpList P l.toArray (onward (wpParts P l K rest)) (pick l [i]) A w

theorem closed_order {ops : Array Oper} : ∀ (js : List Nat) (listed : Array Bool), Closed ops listed → orderOk ops listed js = true → Closed ops (listAll listed js)
  | [], _, h, _ => h
  | i :: js, listed, h, ho => by
    simp only [orderOk, Bool.and_eq_true] at ho
    exact closed_order js _ (closed_add h (ready_spec.1 (List.contains_iff_mem.1 ho.1)).2) ho.2
theorem order_of_any {ops : Array Oper} : ∀ (js : List Nat) (listed : Array Bool), rowAny ops listed js = true → orderOk ops listed js = true
  | [], _, _ => rfl
  | i :: js, listed, h => by
    simp only [rowAny, Bool.and_eq_true] at h
    simp only [orderOk, Bool.and_eq_true]
    exact ⟨h.1.2, order_of_any js _ h.2⟩
theorem any_sound {K : Act → World → Prop} {A : Act} {w : World} (hs : Region.noSelect l.toArray = true) (f : Nat) : ∀ (js : List Nat) (listed : Array Bool) (a : Act), rowAny l.toArray listed js = true → js.all (fun i => decide (i < l.length)) = true →
    chain P l.toArray (fun _ => True) A (pick l js) a → wpAny P .any l.toArray (onward K) f (listAll listed js) A w → wpAny P .any l.toArray (onward K) (f + js.length) listed a w
  | [], _, a, _, _, hc, h => by obtain rfl : a = A := hc; exact h
  | i :: js, listed, a, hr, hi, hc, h => by
    simp only [rowAny, Bool.and_eq_true] at hr
    simp only [List.all_cons, Bool.and_eq_true, decide_eq_true_eq] at hi
    have ho : l[i]? = some l[i] := List.getElem?_eq_getElem hi.1
    simp only [pick, nthOp_eq, ho, chain] at hc
    obtain ⟨v, hy, hc⟩ := hc
    have hy' : Yields P l.toArray l[i] v a := hy.imp (fun ⟨hw, hv⟩ => ⟨hw, fun w => hv w trivial⟩) id
    rw [List.length_cons, ← Nat.add_assoc]
    exact wpAny_take (by simp) hs hr.1.1 hr.1.2 (fun c a w hq => hq.elim) hy' (any_sound hs f js _ _ hr.2 (by simpa using hi.2) hc h)
theorem parts_sound {K : Act → World → Prop} (hs : Region.noSelect l.toArray = true) : ∀ (gs : List Part) (n : Nat) (listed : Array Bool) (a : Act) (w : World), listed.size = l.length → Closed l.toArray listed → partsOk l n listed gs = true →
    wpParts P l K gs a w → wpAny P .any l.toArray (onward K) n listed a w
  | [], n, listed, a, w, _, _, hk, h => wpAny_done (by simpa [partsOk] using hk) h n
  | g :: rest, n, listed, a, w, hsz, hcl, hk, h => by
    obtain ⟨A, h1, h2, h3⟩ := h
    simp only [partsOk, Bool.and_eq_true, decide_eq_true_eq] at hk
    obtain ⟨⟨⟨hn, hin⟩, hrow⟩, hon⟩ := hk
    have hcl' : Closed l.toArray (listAll listed g.row) := by
      by_cases hh : g.here = true
      · rw [if_pos hh, Bool.and_eq_true] at hrow
        exact closed_order _ _ hcl hrow.2
      · rw [if_neg hh] at hrow
        exact closed_order _ _ hcl (order_of_any _ _ hrow)
    -- the row
    suffices hrest : ∀ m, n = m + g.row.length → wpAny P .any l.toArray (onward K) m (listAll listed g.row) A w → wpAny P .any l.toArray (onward K) n listed a w by
      obtain ⟨here, row, on⟩ := g
      cases on with
      | none =>
        simp only at hon h3 hn
        refine hrest (n - row.length) (by simp at hn ⊢; omega) ?_
        exact parts_sound hs rest _ _ A w ((listAll_size _ _).trans hsz) hcl' hon h3
      | some i =>
        simp only [Bool.and_eq_true, decide_eq_true_eq] at hon h3 hn
        obtain ⟨⟨hi, hr⟩, hon⟩ := hon
        have hr' : Region.ready .any l.toArray (listAll listed row) = [i] := by simpa using hr
        have ho : l[i]? = some l[i] := List.getElem?_eq_getElem hi
        have ho' : l.toArray[i]? = some l[i] := by simp
        simp only [pick, nthOp_eq, ho] at h3
        have hwt : Waited l.toArray (listAll listed row) i := (ready_spec.1 (by rw [hr']; simp)).2
        refine hrest (n - row.length - 1 + 1) (by simp at hn ⊢; omega) ?_
        refine wpAny_all hr' (by simp) fun j hj => ?_
        obtain rfl : j = i := by simpa using hj
        have hrec := fun (a' : Act) (w' : World) (hh : wpParts P l K rest a' w') => parts_sound hs rest (n - row.length - 1) ((listAll listed row).setIfInBounds j true) a' w' (by simp [listAll_size, hsz]) (closed_add hcl' hwt) hon hh
        unfold wpOp
        simp only [ho']
        simp only [wpList] at h3
        split
        · rename_i hw
          rw [hw] at h3
          simp only [if_true] at h3
          rcases h3 with h3 | ⟨_, h3⟩
          · exact .inl (wp_onward (Oper.wp_mono (fun a' w' hh => hrec a' w' hh) h3))
          · exact absurd h3 (not_out _)
        · rename_i hw
          simp only [hw] at h3
          exact hrec _ _ h3
    intro m hm hrest
    rw [hm]
    by_cases hh : g.here = true
    · rw [if_pos hh] at h1
      rw [if_pos hh, Bool.and_eq_true] at hrow
      have hc := row_sound (S := (· = w)) rfl _ a h2 (fun w' hw' => by subst hw'; exact h1)
      have hnd : g.row.Nodup := by have := hrow.1; simp only [hereOk, Bool.and_eq_true, decide_eq_true_eq] at this; exact this.1
      obtain ⟨V, hV⟩ := chain_values _ _ hnd hin hc
      exact here_sound hs hrow.1 hrow.2 hcl (fun k hk => by have := List.all_eq_true.1 hin k hk; simp at this; omega) hV m hrest
    · rw [if_neg hh] at h1
      rw [if_neg hh] at hrow
      exact any_sound hs m _ _ _ hrow hin (row_sound (S := fun _ => True) (w1 := w) trivial _ a h2 (fun w' _ => h1 w')) hrest

/-- THE BEGINNING: a region whose order Go leaves open, part by part. -/
theorem wp_region_by {id : Nat} {a : Act} {w : World} (gs : List Part) (hm : P.follows .mixedOrders = true) (hs : (Region.noSelect l.toArray && partsOk l l.length (Array.replicate l.length false) gs) = true)
    (h : wpParts P l (fun a' w' => Q .normal a' w') gs a w.drew) : (Code.region id l.toArray true).wp P Q a w := by
  simp only [Bool.and_eq_true] at hs
  refine wp_mono (wp_region_any (Q := onward fun a' w' => Q .normal a' w') hm ?_) fun e a w hq => by cases e <;> first | exact hq | exact hq.elim
  have := parts_sound (P := P) hs.1 gs l.length (Array.replicate l.length false) a w.drew (by simp) (fun k hk => by
    rw [Array.getD_eq_getD_getElem?] at hk
    rw [Array.getElem?_replicate] at hk
    split at hk <;> simp at hk) hs.2 h
  simpa using this
theorem by_any {K : Act → World → Prop} {row : List Nat} {i : Nat} {rest : List Part} {a : Act} {w : World} (A : Act)
    (h1 : ∀ w', wpList P l.toArray (atEnd A w') (pick l row) a w') (h2 : rowOk P l.toArray A (pick l row) = true)
    (h3 : wpList P l.toArray (onward (wpParts P l K rest)) (pick l [i]) A w) : wpParts P l K (⟨false, row, some i⟩ :: rest) a w := ⟨A, h1, h2, h3⟩
theorem by_here {K : Act → World → Prop} {row : List Nat} {i : Nat} {rest : List Part} {a : Act} {w : World} (A : Act)
    (h1 : wpList P l.toArray (atEnd A w) (pick l row) a w) (h2 : rowOk P l.toArray A (pick l row) = true)
    (h3 : wpList P l.toArray (onward (wpParts P l K rest)) (pick l [i]) A w) : wpParts P l K (⟨true, row, some i⟩ :: rest) a w := ⟨A, h1, h2, h3⟩
theorem by_row {K : Act → World → Prop} {row : List Nat} {rest : List Part} {a : Act} {w : World} (A : Act)
    (h1 : ∀ w', wpList P l.toArray (atEnd A w') (pick l row) a w') (h2 : rowOk P l.toArray A (pick l row) = true)
    (h3 : wpParts P l K rest A w) : wpParts P l K (⟨false, row, none⟩ :: rest) a w := ⟨A, h1, h2, h3⟩
theorem by_row_here {K : Act → World → Prop} {row : List Nat} {rest : List Part} {a : Act} {w : World} (A : Act)
    (h1 : wpList P l.toArray (atEnd A w) (pick l row) a w) (h2 : rowOk P l.toArray A (pick l row) = true)
    (h3 : wpParts P l K rest A w) : wpParts P l K (⟨true, row, none⟩ :: rest) a w := ⟨A, h1, h2, h3⟩
theorem by_onward {K : Act → World → Prop} {a : Act} {w : World} (h : K a w) : onward (wpParts P l K []) .normal a w := h
theorem by_end {K : Act → World → Prop} {a : Act} {w : World} (h : K a w) : wpParts P l K [] a w := h
end
end Go.Proofs.YtdfgcenbkclpbaaDoor
