/- The end of a body, behind what the interpreter tells of its last part. -/
import Derived.Test.YtgdioloappbjkaaGreatWsLoop
import Derived.Test.YtgdioloappbjkaaGreatWsPan
set_option linter.unusedSectionVars false
set_option linter.unusedVariables false
set_option linter.unusedSimpArgs false
namespace Go.Ws
variable [A : Arrs]

section
variable {P : Program} {n : Nat} {F : HP} {ι0 : Env} {call : CallR}

/-- Where a body's last part returns, and nothing is deferred. -/
theorem end_ok (hc : CallOK P call) (hm : P.follows .mixedOrders = true) {fn : Func} (hn : n < 2 ^ deep) {plans : FuncId → Plans} {fid : FuncId} {fuel : Nat} {c : Code} (ok : codeOK (plans fid) c = true) {st st' : St} {ex : Ex} {Rr : Ending → World → Prop} {res : List SV}
    (hd : st.defs = []) (h : codeJ P call n plans fid fuel 0 c st = some (ex, st')) (ho : Holds st'.hp) (hex : ex = .ret ∨ ex = .normal) (hdef : st'.defs = []) (hres : resSs P st' fn.results.toList = some res)
    (hR : ∀ (ι : Env) (vv : Value) (w : World), Good ι0 ι st'.hp → den ι (oneOf res) = some vv → Sat w (stars [F, rep ι st'.hp.t]) → Rr (.returned vv) w) :
    JS n F ι0 st (c.wpIn (Fc none) 0 P (bodyQ P fn Rr)) := by
  refine codeJ_ok hc hm hn 0 c ok (.inl rfl) h ho ?_
  have key : JS n F ι0 st' (fun a w => LeavesQ P fn a.tmps Rr a.defers w) := by
    intro ι rs ds g R hD a w rg s
    rw [hdef] at hD
    simp only [denD, Option.some.injEq] at hD; subst hD
    rw [rg.defers]
    obtain ⟨us, b1, b2⟩ := resSs_ok (n := n) (ds := []) (rep_HD (rep_frame s)) R hres
    have b3 := b2 a w rg (rep_frame s)
    refine ⟨if h : us.toArray.size = 1 then us.toArray[0] else .tuple us.toArray, ?_, hR ι _ w g (oneOf_den b1) s⟩
    have b4 : (fn.results.mapM (oneRes a.tmps)).run P w = .ok us.toArray w := by
      rw [Array.mapM_eq_mapM_toList, map_eq_pure_bind, Sem.run_bind, b3]; rfl
    rw [results_one]
    simp [b4]
  rcases hex with rfl | rfl
  · exact key
  · exact key

/-- A body that defers nothing: from its first state. -/
theorem calls_of_js {f : FuncId} {fn : Func} {c : Code} {args : List SV} {vs : List Value} {Rr : Ending → World → Prop} (hf : P.funcs[f]? = some fn) (hb : fn.body = some c) (hn : fn.ntmps < 100000) (hl : args.length ≤ fn.ntmps) (hd : dens noNames args = some vs)
    {W : World} (hro : RoF F) (s : Sat W F) (k : JS fn.ntmps F noNames ⟨regsS 0 args, ⟨.leaf, 0, [], []⟩, []⟩ (c.wpIn (Fc none) 0 P (bodyQ P fn Rr))) : Calls P f vs.toArray W Rr :=
  calls_of_wpQ hf hb (k noNames _ [] good_empty (regsS_rel hd (by show 0 + args.length < 1099511627776; omega)) rfl _ W (regs_begin (by rw [dens_len hd]; exact hl)) (sat_leaf hro s))
end
end Go.Ws
