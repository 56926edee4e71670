/- Maps gone through, shown right (those without entries). -/
import Derived.Test.YtgdioloappbjkaaGreatWsEff
set_option linter.unusedSectionVars false
set_option linter.unusedVariables false
set_option linter.unusedSimpArgs false
namespace Go.Ws
variable [A : Arrs]

section
variable {P : Program} {ρ : Option Nat} {n : Nat} {F : HP} {ι0 : Env} {ops : Array Oper} {Q : Exit → Act → World → Prop} {rest : List Oper} {ty : TypeId} {ps : String} {af : Array Edge} {st : St} {op : Op}

theorem Hp.small {h : Hp} (hok : h.ok = true) : h.next + 3 < 2 ^ deep := by
  have : h.next < 1000000000000 := by simpa [Hp.ok, Nat.blt_eq] using hok
  show h.next + 3 < 1099511627776
  omega

/-- A new block's names. -/
theorem Good.add {ι : Env} {h : Hp} (g : Good ι0 ι h) (hok : h.ok = true) {ch : Ch} (p : Nat × Nat) : Good ι0 (ι.add h.next p) (h.add ch) ∧ Ext ι (ι.add h.next p) := by
  have e : Ext ι (ι.add h.next p) := Env.add_ext (g.fresh _ (Nat.le_refl _))
  refine ⟨⟨g.ext.trans e, fun b hb => ?_, (by have := Hp.small hok; simp only [Hp.add]; omega)⟩, e⟩
  have hb' : h.next + 1 ≤ b := hb
  simp only [Env.add, if_neg (show b ≠ h.next by omega)]
  exact g.fresh b (by omega)

theorem JS_range {dst : Option Nat} {T : TypeId} {x : Operand} {h' : Hp} {r : Option SV} {dfs : List Df} (hd : ∀ d, dst = some d → d < n) (hn : n < 2 ^ deep)
    (h : aRange P st.regs st.hp st.defs T x = some (r, h', dfs)) : ∃ v, r = some v ∧ dfs = st.defs ∧
      (JS n F ι0 { St.putO st dst v with hp := h' } (wpListIn (Fc ρ) 0 P ops Q rest) → JS n F ι0 st (wpListIn (Fc ρ) 0 P ops Q (⟨dst, .range T x, ty, ps, af, none⟩ :: rest))) := by
  unfold aRange at h
  cases hok : st.hp.ok with
  | false => rw [hok] at h; cases h
  | true =>
    rw [hok, cond_true] at h
    split at h
    · rename_i e hx he
      simp only [Option.some.injEq, Prod.mk.injEq] at h
      obtain ⟨rfl, rfl, rfl⟩ := h
      refine ⟨_, rfl, rfl, fun k => JS_val hd hn (fun ι rs ds R hh g a w rg s => ?_) k⟩
      obtain ⟨xv, a2, a3⟩ := evalS_ok R hx
      cases den_v a2
      obtain ⟨g', ex⟩ := g.add hok (ch := .iter none 0 [] 0) (w.heap.size, 0)
      refine ⟨_, .pointer (some ⟨w.heap.size, 0, none⟩), w.alloc (.mapIter none 0 #[] 0), g', ex, by simp [den, Env.add_self], ?_, rep_new s (g.fresh _ (Nat.le_refl _)) g.small ⟨none, rfl, rfl⟩ .alloc⟩
      simp [execOp, rg.eval a3, Instr.range, underlying, mapElem_ok he]
    · rename_i b e hx he
      split at h
      rotate_left
      · cases h
      rename_i es clock hb
      simp only [Option.some.injEq, Prod.mk.injEq] at h
      obtain ⟨rfl, rfl, rfl⟩ := h
      refine ⟨_, rfl, rfl, fun k => JS_val hd hn (fun ι rs ds R hh g a w rg s => ?_) k⟩
      obtain ⟨xv, a2, a3⟩ := evalS_ok R hx
      obtain ⟨p, hp, rfl⟩ := den_mp a2
      obtain ⟨p', ob, e1, e2, e3⟩ := rep_get (rep_frame s) hb
      rw [hp] at e1; cases e1
      obtain ⟨ms, d1, rfl⟩ := e2
      obtain ⟨g', ex⟩ := g.add hok (ch := .iter (some b) clock [] clock) (w.heap.size, 0)
      refine ⟨_, .pointer (some ⟨w.heap.size, 0, none⟩), w.alloc (.mapIter (some p.1) clock #[] clock), g', ex, by simp [den, Env.add_self], ?_, rep_new s (g.fresh _ (Nat.le_refl _)) g.small ⟨some p.1, by simp [denB, ex _ _ hp], rfl⟩ .alloc⟩
      have hg := getObj_map (P := P) e3
      simp [execOp, rg.eval a3, Instr.range, underlying, mapElem_ok he, hg]
    · cases h

theorem JS_next {dst : Option Nat} {x : Operand} {h' : Hp} {r : Option SV} {dfs : List Df} (hd : ∀ d, dst = some d → d < n) (hn : n < 2 ^ deep)
    (h : aNext st.regs st.hp st.defs x = some (r, h', dfs)) : ∃ v, r = some v ∧ dfs = st.defs ∧
      (JS n F ι0 { St.putO st dst v with hp := h' } (wpListIn (Fc ρ) 0 P ops Q rest) → JS n F ι0 st (wpListIn (Fc ρ) 0 P ops Q (⟨dst, .next x false, ty, ps, af, none⟩ :: rest))) := by
  unfold aNext at h
  split at h
  rotate_left
  · cases h
  rename_i b hx
  split at h
  · rename_i s0 sn l0 hb
    simp only [Option.some.injEq, Prod.mk.injEq] at h
    obtain ⟨rfl, rfl, rfl⟩ := h
    refine ⟨_, rfl, rfl, fun k => JS_val hd hn (fun ι rs ds R hh g a w rg s => ?_) k⟩
    obtain ⟨xv, a2, a3⟩ := evalS_ok R hx
    obtain ⟨p, hp, rfl⟩ := den_ptr a2
    obtain ⟨p', ob, e1, e2, e3⟩ := rep_get (rep_frame s) hb
    rw [hp] at e1; cases e1
    obtain ⟨r0, d1, rfl⟩ := e2
    simp only [denB, Option.some.injEq] at d1; subst d1
    refine ⟨ι, .tuple #[.bool false], w, ⟨g.ext, g.fresh, g.small⟩, .refl ι, by simp [den, dens], ?_, s⟩
    simp [execOp, rg.eval a3, Instr.next, getObj_iter e3]
  · rename_i m s0 sn l0 hb
    split at h
    rotate_left
    · cases h
    rename_i clock hm
    simp only [Option.some.injEq, Prod.mk.injEq] at h
    obtain ⟨rfl, rfl, rfl⟩ := h
    refine ⟨_, rfl, rfl, fun k => JS_val hd hn (fun ι rs ds R hh g a w rg s => ?_) k⟩
    obtain ⟨xv, a2, a3⟩ := evalS_ok R hx
    obtain ⟨p, hp, rfl⟩ := den_ptr a2
    obtain ⟨p', ob, e1, e2, e3⟩ := rep_get (rep_frame s) hb
    rw [hp] at e1; cases e1
    obtain ⟨r0, d1, rfl⟩ := e2
    obtain ⟨q, ob2, f1, f2, f3⟩ := rep_get (rep_frame s) hm
    obtain ⟨ms, g1, rfl⟩ := f2
    simp only [denE, Option.some.injEq] at g1; subst g1
    simp only [denB, f1, Option.some.injEq] at d1; subst d1
    have hrun : ∃ w', (Instr.next (.pointer (some ⟨p.1, 0, none⟩)) false ty).run P w = .ok (.tuple #[.bool false]) w' ∧ SameH w w' := by
      refine ⟨if (Question.mapNext 1).forced then w else w.drew, ?_, ?_⟩
      · simp [Instr.next, getObj_iter e3, getObj_map f3, Question.forced]
      · split <;> exact ⟨rfl, rfl⟩
    obtain ⟨w', k1, k2⟩ := hrun
    refine ⟨ι, .tuple #[.bool false], w', ⟨g.ext, g.fresh, g.small⟩, .refl ι, by simp [den, dens], ?_, s.heap k2⟩
    simp [execOp, rg.eval a3, k1]
  · cases h

end
end Go.Ws
