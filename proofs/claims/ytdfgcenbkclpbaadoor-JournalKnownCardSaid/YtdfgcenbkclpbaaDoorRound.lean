/- Code in the frame of a round of a range over a function: regions there by the plain laws; the statement itself; a call of yield. -/
import Derived.Test.YtdfgcenbkclpbaaDoorPlanLate
import Derived.Test.YtdfgcenbkclpbaaDoorPlanHere
import Derived.Test.YtdfgcenbkclpbaaDoorMem
import Derived.RangeFuncOwn
import Derived.TacticsIn
import Derived.BigFrameIn
import Derived.OrdersIn
namespace Go.Proofs.YtdfgcenbkclpbaaDoor
open Go.RowKit
set_option linter.unusedSimpArgs false
set_option linter.unusedVariables false
section
variable {P : Program} {n r : Nat}
theorem rowsIn_round {row : String} {args : Array Value} {w : World} {R : Value → World → Prop} (h : Rows P row args w R) : RowsIn (Fence.wide.inRound r) n P row args w R :=
  fun c cs _ => let ⟨v, w', hr, s⟩ := h c cs; ⟨v, w', hr, stepsIn_wide.2 s⟩
theorem callsIn_round {f : FuncId} {args : Array Value} {w : World} {R : Ending → World → Prop} (h : Calls P f args w R) : CallsIn (Fence.wide.inRound r) n P f args w R :=
  have h' := (callsIn_wide (n := n)).2 h
  ⟨trivial, fun cs _ => h'.2 cs (room_wide _)⟩
/-- an operation that goes on in an ordinary way does so in a round's frame -/
theorem opIn_round {o : Oper} {a : Act} {w : World} {K KK : Act → World → Prop} {Q : Exit → Act → World → Prop} (hd : ∀ c, o.op ≠ .defer c) (h : o.wp P a w K (onward KK)) : o.wpIn (Fence.wide.inRound r) n P a w K Q := by
  unfold Oper.wp at h
  unfold Oper.wpIn
  refine ⟨fun _ _ => trivial, ?_⟩
  rw [Oper.semAt_eq _ _ _ hd]
  generalize (execOp a.eval o).run P w = R at *
  cases R with
  | ok x w' =>
    cases x <;> simp only [Oper.upon] at h <;> simp only [Oper.uponIn] <;> try exact h
    case enter f args =>
      refine ⟨(fun e => by cases e), callsIn_round (Calls.mono h fun e w'' he => ?_)⟩
      cases e with
      | returned v => exact he
      | panicked c => exact he.elim
      | outgrown => exact absurd he (not_out _)
    case row row args => exact ⟨(fun e => by cases e), rowsIn_round h⟩
  | halt x w' =>
    cases x <;> simp only [Oper.upon] at h <;> exact h.elim
def noDefer (l : List Oper) : Bool := l.all fun o => match o.op with | .defer _ => false | _ => true
theorem noDefer_spec {l : List Oper} (h : noDefer l = true) {o : Oper} (ho : o ∈ l) : ∀ c, o.op ≠ .defer c := fun c e => by
  have := List.all_eq_true.1 h o ho
  rw [e] at this
  cases this
theorem listIn_round {ops : Array Oper} {K : Act → World → Prop} {Q : Exit → Act → World → Prop} (hQ : ∀ a w, K a w → Q .normal a w) : ∀ (l : List Oper), noDefer l = true → ∀ (a : Act) (w : World), wpList P ops (onward K) l a w → wpListIn (Fence.wide.inRound r) n P ops Q l a w
  | [], _, a, w, h => hQ a w h
  | o :: rest, hd, a, w, h => by
    have hdr : noDefer rest = true := by unfold noDefer at hd ⊢; simp only [List.all_cons, Bool.and_eq_true] at hd; exact hd.2
    unfold wpList at h
    unfold wpListIn
    split at h
    · rename_i hw
      rw [if_pos hw]
      rcases h with h | ⟨_, h⟩
      · exact Oper.wpIn_mono (fun a' w' h' => listIn_round hQ rest hdr a' w' h') (opIn_round (noDefer_spec hd (List.mem_cons_self ..)) h)
      · exact absurd h (not_out _)
    · rename_i hw
      rw [if_neg hw]
      exact ⟨fun _ _ => trivial, listIn_round hQ rest hdr _ _ h⟩
/-- a region whose order is fixed -/
theorem round_region {id : Nat} {l : List Oper} {K : Act → World → Prop} {Q : Exit → Act → World → Prop} {a : Act} {w : World} (hd : noDefer l = true) (hQ : ∀ a w, K a w → Q .normal a w) (h : wpList P l.toArray (onward K) l a w) :
    (Code.region id l.toArray false).wpIn (Fence.wide.inRound r) n P Q a w := wpIn_region_lit (listIn_round hQ l hd a w h)
theorem anyIn_round {ops : Array Oper} {K : Act → World → Prop} {Q : Exit → Act → World → Prop} {md : Region.Mode} (hd : noDefer ops.toList = true) (hQ : ∀ a w, K a w → Q .normal a w) : ∀ (fuel : Nat) (listed : Array Bool) (a : Act) (w : World), wpAny P md ops (onward K) fuel listed a w → wpAnyIn (Fence.wide.inRound r) n P md ops Q fuel listed a w
  | 0, _, a, w, h => ⟨h.1, hQ a w h.2⟩
  | fuel + 1, listed, a, w, h => by
    refine ⟨fun e => hQ a w (h.1 e), fun i hi => ?_⟩
    have h1 := h.2 i hi
    unfold wpOp at h1
    unfold wpOpIn
    cases ho : ops[i]? with
    | none => rw [ho] at h1; exact anyIn_round hd hQ fuel _ a w h1
    | some o =>
      rw [ho] at h1
      simp only at h1 ⊢
      split at h1
      · rename_i hw
        rw [if_pos hw]
        rcases h1 with h1 | ⟨_, h1⟩
        · exact Oper.wpIn_mono (fun a' w' h' => anyIn_round hd hQ fuel _ a' w' h') (opIn_round (noDefer_spec hd (by simpa using Array.mem_of_getElem? ho)) h1)
        · exact absurd h1 (not_out _)
      · rename_i hw
        rw [if_neg hw]
        exact ⟨fun _ _ => trivial, anyIn_round hd hQ fuel _ _ w h1⟩
/-- regions whose order is drawn, by a plan -/
theorem round_legs {l : List Oper} {id : Nat} {K : Act → World → Prop} {Q : Exit → Act → World → Prop} {a : Act} {w : World} (S : World → Prop) (gs : List Leg) (hm : P.follows .mixedOrders = true) (hs : (noDefer l && Region.noSelect l.toArray && allIn l gs && planOk l.toArray l.length (Array.replicate l.length false) (gs.flatMap Leg.moves)) = true)
    (hQ : ∀ a w, K a w → Q .normal a w) (h : wpLegs P l K S gs a w.drew) : (Code.region id l.toArray true).wpIn (Fence.wide.inRound r) n P Q a w := by
  simp only [Bool.and_eq_true] at hs
  have := plan_sound (P := P) (S := S) hs.1.1.2 l.length (Array.replicate l.length false) _ a w.drew hs.2 (legs_sound gs a w.drew hs.1.2 h)
  exact wpIn_region_any hm (anyIn_round (by simpa using hs.1.1.1) hQ _ _ _ _ (wpAny_of_held _ _ _ _ (by simpa using this)))
theorem round_legsU {l : List Oper} {id : Nat} {K : Act → World → Prop} {Q : Exit → Act → World → Prop} {a : Act} {w : World} (S : World → Prop) (c : Nat) (gs : List Leg) (hm : P.follows .mixedOrders = true) (hs : (noDefer l && Region.noSelect l.toArray && allIn l gs && planOkU l.toArray c l.length (Array.replicate l.length false) (gs.flatMap Leg.moves)) = true)
    (hQ : ∀ a w, K a w → Q .normal a w) (h : wpLegsU P l K S c gs a w.drew) : (Code.region id l.toArray true).wpIn (Fence.wide.inRound r) n P Q a w := by
  simp only [Bool.and_eq_true] at hs
  have := planU_sound (P := P) (S := S) (c := c) hs.1.1.2 l.length (Array.replicate l.length false) _ a w.drew hs.2 (legsU_sound gs a w.drew hs.1.2 h)
  exact wpIn_region_any hm (anyIn_round (by simpa using hs.1.1.1) hQ _ _ _ _ (wpAny_of_U _ _ _ _ (by simpa using this)))
/-- the world in which a range over a function begins -/
def rangeWorld (w : World) (fn : FuncId) (tmps : Array Value) (ps : Array Tmp) (assign body : Code) : World :=
  (w.alloc (.deferred (some []))).alloc (.loop { state := .ready, pending := none, fn, tmps, params := ps, assign, body, defers := w.heap.size })
/-- THE STATEMENT 'for .. := range g' -/
theorem wp_range {g : Operand} {ps : Array Tmp} {assign body : Code} {Q : Exit → Act → World → Prop} {a : Act} {w : World} {gf : Nat} {lb : Array Value} (hg : a.eval g = .func (.func gf) #[] lb) (eg : ∀ args w, (callFunc gf args).run P w = .ok (.enter gf args) w)
    (h : ∀ fn, CallsIn Fence.wide 0 P gf (#[.func (.yield (w.heap.size + 1)) #[] #[]] ++ lb) (rangeWorld w fn a.tmps ps assign body)
      (rangePost Fence.wide 1 P (w.heap.size + 1) Q { a with defers := [{ target := .collected w.heap.size, args := #[] }] ++ a.defers })) : (Code.rangeFunc g ps assign body).wp P Q a w := by
  refine (wpIn_wide (n := 1)).1 (wpIn_rangeFunc fun fn _ => ?_)
  have h1 : (Instr.enterLoop fn a.tmps ps assign body Fence.wide.round).run P w = .ok (w.heap.size + 1, [{ target := .collected w.heap.size, args := #[] }]) (rangeWorld w fn a.tmps ps assign body) := run_enterLoop_outer _ _ _ _ _
  have h2 : (resolve a.eval (rangeCall g (w.heap.size + 1)) 0).run P (rangeWorld w fn a.tmps ps assign body) = .ok { target := .fn (.func gf) lb, args := #[.func (.yield (w.heap.size + 1)) #[] #[]] } (rangeWorld w fn a.tmps ps assign body) := by
    generalize rangeWorld w fn a.tmps ps assign body = W
    simp only [resolve, hg]
    simp [go_sem]
  have h3 : (invoke (.fn (.func gf) lb) #[.func (.yield (w.heap.size + 1)) #[] #[]]).run P (rangeWorld w fn a.tmps ps assign body) = .ok (.enter gf (#[.func (.yield (w.heap.size + 1)) #[] #[]] ++ lb)) (rangeWorld w fn a.tmps ps assign body) := by
    generalize rangeWorld w fn a.tmps ps assign body = W
    simp [invoke, go_sem, eg]
  exact ⟨_, _, _, _, _, gf, _, _, h1, h2, fun _ _ => trivial, h3, (fun e => by cases e), h fn⟩
theorem rangeWorld_loop (w : World) (fn : FuncId) (tmps : Array Value) (ps : Array Tmp) (assign body : Code) :
    (rangeWorld w fn tmps ps assign body).heap[w.heap.size + 1]? = some (.loop { state := .ready, pending := none, fn, tmps, params := ps, assign, body, defers := w.heap.size }) := by
  have := World.alloc_heap_new (w.alloc (.deferred (some []))) (.loop { state := .ready, pending := none, fn, tmps, params := ps, assign, body, defers := w.heap.size })
  rwa [World.size_alloc] at this
theorem rangeWorld_defer (w : World) (fn : FuncId) (tmps : Array Value) (ps : Array Tmp) (assign body : Code) :
    (rangeWorld w fn tmps ps assign body).heap[w.heap.size]? = some (.deferred (some [])) :=
  (Below.heap_alloc _ _ _ (by simp)).trans (World.alloc_heap_new w _)
theorem rangeWorld_touch (w : World) (fn : FuncId) (tmps : Array Value) (ps : Array Tmp) (assign body : Code) : Touch [] w (rangeWorld w fn tmps ps assign body) := ((Touch.refl [] w).alloc _).alloc _
theorem wp_range_at {g : Operand} {ps : Array Tmp} {assign body : Code} {Q : Exit → Act → World → Prop} {a : Act} {w : World} {gf : Nat} {lb : Array Value} (hg : a.eval g = .func (.func gf) #[] lb) (eg : ∀ args w, (callFunc gf args).run P w = .ok (.enter gf args) w)
    (h : ∀ (rc : Loop) (W : World), rc.state = .ready → rc.pending = none → rc.tmps = a.tmps → rc.params = ps → rc.assign = assign → rc.body = body → Touch [] w W → W.heap[w.heap.size + 1]? = some (.loop rc) → W.heap[w.heap.size]? = some (.deferred (some [])) → w.heap.size + 2 ≤ W.heap.size →
      CallsIn Fence.wide 0 P gf (#[.func (.yield (w.heap.size + 1)) #[] #[]] ++ lb) W
      (rangePost Fence.wide 1 P (w.heap.size + 1) Q { a with defers := [{ target := .collected w.heap.size, args := #[] }] ++ a.defers })) : (Code.rangeFunc g ps assign body).wp P Q a w :=
  wp_range hg eg fun fn => h { state := .ready, pending := none, fn, tmps := a.tmps, params := ps, assign, body, defers := w.heap.size } _ rfl rfl rfl rfl rfl rfl (rangeWorld_touch w fn a.tmps ps assign body) (rangeWorld_loop w fn a.tmps ps assign body) (rangeWorld_defer w fn a.tmps ps assign body) (by unfold rangeWorld; simp)
/-- A ROUND: what a call of yield comes to -/
theorem yield_round {l : Nat} {rc : Loop} {W : World} {args : Array Value} {R : Ending → World → Prop} (hl : W.heap[l]? = some (.loop rc)) (hs : args.size = rc.params.size)
    (h : rc.assign.wpIn (Fence.wide.inRound l) n P (Exit.then (fun a₁ w₁ => ∃ w₂, (Instr.beginRound l).run P w₁ = .ok () w₂ ∧ rc.body.wpIn (Fence.wide.inRound l) n P (roundPost P l R) a₁ w₂) (fun _ _ _ => False))
      { tmps := (rc.params.zip args).foldl (fun tmps (t, a) => tmps.setIfInBounds t a) rc.tmps, defers := [] } W) : YieldAt Fence.wide n P l args W R :=
  ⟨rc.fn, _, rc.assign, rc.body, run_yield hl hs, roundIn_of_wpIn trivial h⟩
/-- a function whose body holds such a statement -/
theorem calls_marks {f : FuncId} {fn : Func} {c : Code} {args : Array Value} {w : World} {R : Ending → World → Prop} (hf : P.funcs[f]? = some fn) (hb : fn.body = some c)
    (h : c.wp P (bodyPostM Fence.wide 0 P fn R) { tmps := args ++ Array.replicate (fn.ntmps - args.size) undef, defers := [] } w) : Calls P f args w R :=
  (callsIn_wide (n := 0)).1 (callsIn_of_wp_marks hf hb trivial (wpIn_wide.2 h))
theorem onward_i {K : Act → World → Prop} {a : Act} {w : World} (h : K a w) : onward K .normal a w := h
end
end Go.Proofs.YtdfgcenbkclpbaaDoor
