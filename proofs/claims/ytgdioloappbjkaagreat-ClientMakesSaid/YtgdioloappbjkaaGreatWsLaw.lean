/- From the interpreter's answers to what a row asks. -/
import Derived.Test.YtgdioloappbjkaaGreatWsCall
import Derived.Below
set_option linter.unusedSectionVars false
set_option linter.unusedVariables false
set_option linter.unusedSimpArgs false
namespace Go.Ws
open Go.RowKit

section
variable [A : Arrs]

/-- All that a world held, held still. -/
def Old (W : World) : HP := fun h => h.rest = restOf W ∧ ∀ b o, W.heap[b]? = some o → h b = some (false, o)

theorem old_here (W : World) : Sat W (Old W) :=
  ⟨⟨restOf W, fun b => (W.heap[b]?).map (false, ·)⟩, ⟨rfl, fun b o h => by simp [h]⟩, rfl, fun b f o h => by
    cases hb : W.heap[b]? with
    | none => simp [hb] at h
    | some o' => simp [hb] at h; rw [h.2]⟩

theorem old_any {W w : World} (s : Sat w (Old W)) (p : HP) (h : Sat W p) : Sat w p := by
  obtain ⟨h1, ⟨r1, x1⟩, r2, g1⟩ := s
  obtain ⟨h2, x2, r3, g2⟩ := h
  exact ⟨h2, x2, r3.trans (r1.symm.trans r2), fun b f o hb => g1 b false o (x1 b o (g2 b f o hb))⟩

theorem old_below {W w : World} (s : Sat w (Old W)) : Below W.heap.size W w := by
  obtain ⟨h1, ⟨r1, x1⟩, r2, g1⟩ := s
  have hr : restOf w = restOf W := r2.symm.trans r1
  simp only [restOf, Rest.mk.injEq] at hr
  have hb : ∀ k, k < W.heap.size → w.heap[k]? = W.heap[k]? := fun k hk => by
    rw [Array.getElem?_eq_getElem hk]
    exact g1 k false _ (x1 k _ (Array.getElem?_eq_getElem hk))
  refine ⟨hr.1, hr.2.1, hr.2.2, ?_, hb⟩
  rcases Nat.eq_zero_or_pos W.heap.size with h | h
  · omega
  · have := hb (W.heap.size - 1) (by omega)
    rw [show W.heap[W.heap.size - 1]? = some W.heap[W.heap.size - 1] from Array.getElem?_eq_getElem (by omega)] at this
    have := (Array.getElem?_eq_some_iff.1 this).1
    omega

def noNames : Env := fun _ => none

theorem good_empty {a : List Bool} : Good noNames noNames ⟨.leaf, 0, a, []⟩ := ⟨.refl _, fun _ _ => rfl, by show 0 + 1 < 1099511627776; omega⟩

/-- The arrays stand there, to be read. -/
def RoF (F : HP) : Prop := ∀ h, F h → ∀ id d, A.get id = some d → h d.block = some (false, d.obj)

theorem RoF.old {W : World} (h : ∀ id d, A.get id = some d → W.heap[d.block]? = some d.obj) : RoF (Old W) := fun _ x id d hd => x.2 _ _ (h id d hd)

theorem roF_none {F : HP} : @RoF noArrs F := fun _ _ _ _ hd => by cases hd

/-- A heap without named blocks. -/
theorem sat_leaf {w : World} {F : HP} {ι : Env} (hro : RoF F) (s : Sat w F) : Sat w (stars [F, rep ι .leaf]) := by
  refine s.imp fun h x => ?_
  classical
  refine ⟨h, ⟨h.rest, fun b => if ∃ id d, A.get id = some d ∧ d.block = b then h b else none⟩, ⟨rfl, rfl, fun b => ?_⟩, x, ?_⟩
  · by_cases hb : ∃ id d, A.get id = some d ∧ d.block = b
    · have hb' := hb
      obtain ⟨id, d, hd, rfl⟩ := hb
      exact .inr (.inr ⟨d.obj, hro h x id d hd, (if_pos hb').trans (hro h x id d hd), hro h x id d hd⟩)
    · exact .inr (.inl ⟨if_neg hb, rfl⟩)
  · refine sep_emp ⟨fun b c hb => (by cases hb), fun b b' c c' p p' hb => (by cases hb), fun id d hd => ?_⟩
    show (if ∃ id' d', A.get id' = some d' ∧ d'.block = d.block then h d.block else none) = _
    rw [if_pos ⟨id, d, hd, rfl⟩]
    exact hro h x id d hd

/-- True, and nothing was asked. -/
def saysTrue : Option (SV × Hp) → Bool
  | some (.v (.bool true), ⟨_, _, _, []⟩) => true
  | _ => false

theorem saysTrue_ok {x : Option (SV × Hp)} (h : saysTrue x = true) : ∃ hp, x = some (.v (.bool true), hp) ∧ Holds hp := by
  unfold saysTrue at h
  split at h
  · exact ⟨_, rfl, fun x hx => by cases hx⟩
  · cases h

/-- A call that the interpreter answers with true, from a heap without named blocks. -/
theorem calls_ret {P : Program} {call : CallR} (hc : CallOK P call) {f : FuncId} {args : List SV} {vs : List Value} {a : List Bool} {hp : Hp} (hd : dens noNames args = some vs) (h : call (.fn f) args ⟨.leaf, 0, a, []⟩ = some (.v (.bool true), hp)) (ho : Holds hp)
    {F : HP} {w : World} (hro : RoF F) (s : Sat w F) : Calls P f vs.toArray w fun e w' => e = .returned (.bool true) ∧ Sat w' F := by
  refine ((hc.fn _ _ _ _ _ h).2 ho F noNames vs good_empty hd w (sat_leaf hro s)).mono ?_
  rintro e w' ⟨ι', vv, rfl, _, hv, s'⟩
  refine ⟨?_, s'.ent .dropr⟩
  simp only [den, Option.some.injEq] at hv
  rw [← hv]

theorem calls_true {P : Program} {call : CallR} (hc : CallOK P call) {f : FuncId} {args : List SV} {vs : List Value} (hd : dens noNames args = some vs) (h : saysTrue (call (.fn f) args Hp.none) = true)
    {F : HP} {w : World} (hro : RoF F) (s : Sat w F) : Calls P f vs.toArray w fun e w' => e = .returned (.bool true) ∧ Sat w' F := by
  obtain ⟨hp, h, ho⟩ := saysTrue_ok h
  exact calls_ret hc hd h ho hro s

/-- Functions that say true, whatever the heap: known beforehand. -/
def trueSums (is : FuncId → Bool) : Sums := fun f args h => match args with
  | [] => bif is f then some (.v (.bool true), h) else none
  | _ :: _ => none

theorem trueSums_ok {P : Program} {is : FuncId → Bool} (h : ∀ f, is f = true → (∀ (as : Array Value) (w : World), (callFunc f as).run P w = .ok (.enter f as) w) ∧ ∀ (F : HP) (w : World), Sat w F → Calls P f #[] w fun e w' => e = .returned (.bool true) ∧ Sat w' F) :
    SumsOK P (trueSums is) := by
  intro f args hp v h' e
  unfold trueSums at e
  split at e
  rotate_left
  · cases e
  cases hi : is f with
  | false => rw [hi] at e; cases e
  | true =>
    rw [hi] at e
    simp only [cond_true, Option.some.injEq, Prod.mk.injEq] at e
    obtain ⟨rfl, rfl⟩ := e
    obtain ⟨h1, h2⟩ := h f hi
    refine ⟨.refl _, h1, fun _ F ι vs g hd w s => ?_⟩
    simp only [dens, Option.some.injEq] at hd; subst hd
    refine (h2 _ w s).mono ?_
    rintro e w' ⟨rfl, s'⟩
    exact ⟨ι, _, rfl, g, rfl, s'⟩

/-- What must hold where it says true. -/
def ifTrue : Option (SV × Hp) → List (Bool × Bool)
  | some (.v (.bool true), hp) => hp.conds
  | _ => [(true, false)]

theorem ifTrue_ok {x : Option (SV × Hp)} (h : ∀ y ∈ ifTrue x, y.1 = y.2) : ∃ hp, x = some (.v (.bool true), hp) ∧ Holds hp := by
  unfold ifTrue at h
  split at h
  · exact ⟨_, rfl, h⟩
  · have := h (true, false) (by simp)
    cases this

/-- It ends, and nothing is left. -/
def endsQuiet : Option (Ex × St) → Bool
  | some (.normal, ⟨_, ⟨_, _, _, []⟩, []⟩) => true
  | _ => false

end

/-- A deferred function that looks whether there is a panic, where there is none. -/
theorem quiet_of {P : Program} {call : CallR} (hc : CallOK P call) (hm : P.follows .mixedOrders = true) {f : FuncId} {fn : Func} {id t : Nat} {ty : TypeId} {ps : String} {af : Array Edge} {blk : Code} {plans : FuncId → Plans} {fuel : Nat}
    (hf : P.funcs[f]? = some fn) (hb : fn.body = some (.seq (.region id #[⟨some t, .call ⟨.builtin .recover, #[], #[]⟩, ty, ps, af, none⟩] false) blk)) (hn : fn.ntmps < 100000) (hn4 : 4 ≤ fn.ntmps) (ht : t < fn.ntmps) (hr : fn.results = #[])
    (hok : codeOK (plans f) blk = true) (hcode : endsQuiet (codeJ P call fn.ntmps plans f fuel 0 blk ⟨putS .leaf t (.v .nilIface), Hp.none, []⟩) = true) {as : Array Value} {w : World} (has : as.size ≤ 4) :
    CallsD P f as .returning w fun e u' w' => (∃ v, e = .returned v) ∧ u' = .returning ∧ ∀ p : HP, Sat w p → Sat w' p := by
  have hn2 : fn.ntmps < 2 ^ deep := by show fn.ntmps < 1099511627776; omega
  obtain ⟨st, hcode, ho, hd⟩ : ∃ st, codeJ P call fn.ntmps plans f fuel 0 blk ⟨putS .leaf t (.v .nilIface), Hp.none, []⟩ = some (.normal, st) ∧ Holds st.hp ∧ st.defs = [] := by
    unfold endsQuiet at hcode
    split at hcode
    · rename_i hc; exact ⟨_, hc, fun x hx => (by cases hx), rfl⟩
    · cases hcode
  refine callsD_of_wpS hf hb fun c₀ cs hu => wpS_seq (wpS_region ?_)
  have hrange : List.range (#[(⟨some t, .call ⟨.builtin .recover, #[], #[]⟩, ty, ps, af, none⟩ : Oper)]).size = [0] := rfl
  rw [hrange]
  have hrec : recoverD (c₀ :: cs) = none := by simp [recoverD, hu]
  have hex : ∀ a : Act, (execOp a.eval ⟨some t, .call ⟨.builtin .recover, #[], #[]⟩, ty, ps, af, none⟩).run P w = .ok .recover w := fun a => by
    simp [execOp, resolve, invoke, builtin]
  simp only [wpOpsS, List.getElem?_toArray, List.getElem?_cons_zero]
  simp only [Region.wanted, if_true, hex, hrec]
  refine wpS_of_wp ((wpIn_wide (n := 0)).1 ?_)
  have key := codeJ_ok (P := P) (n := fn.ntmps) (F := Old w) (ι0 := noNames) (ρ := none) (Q := fun e a' w' => bodyPostS P fn c₀ cs (fun e u' w' => (∃ v, e = .returned v) ∧ u' = .returning ∧ ∀ p : HP, Sat w p → Sat w' p) e a' (c₀ :: cs) w') hc hm hn2 0 blk hok (.inl rfl) hcode ho ?_
  · refine key noNames [(t, .nilIface)] [] good_empty ?_ rfl _ w ?_ (sat_leaf roF_none (old_here w))
    · intro s sv hs
      have : lookS (putS .leaf t (.v .nilIface)) s = if s = t then some (.v .nilIface) else none := by
        unfold putS lookS; rw [Tri.get_set _ _ _ _ _ (by omega)]; simp [Tri.get_leaf]
      rw [this] at hs
      by_cases e : s = t
      · rw [if_pos e] at hs; cases hs
        exact ⟨.nilIface, rfl, by simp [lookR, e]⟩
      · rw [if_neg e] at hs; cases hs
    · refine ⟨by simp [Act.put]; omega, by simp [Act.put], fun s v hs => ?_⟩
      simp only [lookR] at hs
      cases hb : Nat.beq t s with
      | false => rw [hb] at hs; cases hs
      | true =>
        have := Nat.eq_of_beq_eq_true hb
        subst this
        rw [hb] at hs; cases hs
        simp [Act.put, Array.getElem?_setIfInBounds]; omega
  · intro ι rs ds g R hD a w' rg s
    rw [hd] at hD
    simp only [denD, Option.some.injEq] at hD; subst hD
    refine ⟨rg.defers, .returning, by rw [← hu], .tuple #[], by simp [results, hr], ⟨_, rfl⟩, rfl, fun p hp => old_any (s.ent .dropr) p hp⟩

end Go.Ws
