/- Maps and the like, shown right. -/
import Derived.Test.YtgdioloappbjkaaGreatWsApp
set_option linter.unusedSectionVars false
set_option linter.unusedVariables false
set_option linter.unusedSimpArgs false
namespace Go.Ws
variable [A : Arrs]

variable {ι : Env} {t : Tree} {w w' : World} {F : HP}

theorem denE_len : ∀ {es : List (SV × SV × Nat)} {ms : List MapEntry}, denE ι es = some ms → ms.length = es.length
  | [], ms, h => by simp [denE] at h; simp [← h]
  | (k, v, b) :: es, ms, h => by obtain ⟨_, _, m, _, _, h3, rfl⟩ := denE_cons.1 h; simp [denE_len h3]

theorem mapPut_ok {kd kk : IntKind} {q : Int} {v : SV} {vv : Value} (hv : den ι v = some vv) {clock : Nat} : ∀ {es es' : List (SV × SV × Nat)} {ms : List MapEntry} {c : Nat} (j : Nat), denE ι es = some ms → mapPut kd q v clock es = some (es', c) →
    (∃ i e, Instr.findNow (.int kk) (.int kd q) ms j = some (some (j + i, e.val)) ∧ ms[i]? = some e ∧ e.key = .int kd q ∧ denE ι es' = some (ms.modify i fun e => { e with key := .int kd q, val := vv }) ∧ c = clock) ∨
    (Instr.findNow (.int kk) (.int kd q) ms j = some none ∧ denE ι es' = some (ms ++ [⟨.int kd q, vv, clock⟩]) ∧ c = clock + 1)
  | [], es', ms, c, j, hd, h => by
    simp [denE] at hd; subst hd
    simp [mapPut] at h; obtain ⟨rfl, rfl⟩ := h
    exact .inr ⟨rfl, denE_cons.2 ⟨_, _, [], rfl, hv, rfl, rfl⟩, rfl⟩
  | (k, u, b) :: es, es', ms, c, j, hd, h => by
    obtain ⟨kv, uv, m, h1, h2, h3, rfl⟩ := denE_cons.1 hd
    unfold mapPut at h
    split at h
    · rename_i hh; cases hh
    · rename_i k2 m2 u2 b2 l2 hh
      simp only [List.cons.injEq, Prod.mk.injEq] at hh
      obtain ⟨⟨rfl, rfl, rfl⟩, rfl⟩ := hh
      cases den_v h1
      by_cases e : k2 = kd
      · subst e
        simp only [decide_true, cond_true] at h
        by_cases e2 : q = m2
        · subst e2
          simp only [decide_true, cond_true, Option.some.injEq, Prod.mk.injEq] at h
          obtain ⟨rfl, rfl⟩ := h
          refine .inl ⟨0, ⟨.int k2 q, uv, b⟩, by simp [Instr.findNow, Instr.sameNow], rfl, rfl, ?_, rfl⟩
          exact denE_cons.2 ⟨_, _, m, h1, hv, h3, by simp⟩
        · have e3 : (q == m2) = false := beq_eq_false_iff_ne.2 e2
          simp only [decide_eq_false e2, cond_false] at h
          split at h
          rotate_left
          · cases h
          rename_i l' c' hm
          simp only [Option.some.injEq, Prod.mk.injEq] at h
          obtain ⟨rfl, rfl⟩ := h
          rcases mapPut_ok (kk := kk) hv (j + 1) h3 hm with ⟨i, e, f1, f2, f3, f4, f5⟩ | ⟨f1, f2, f3⟩
          · refine .inl ⟨i + 1, e, ?_, by simpa using f2, f3, denE_cons.2 ⟨_, _, _, h1, h2, f4, by simp⟩, f5⟩
            simp [Instr.findNow, Instr.sameNow, e3, f1]; omega
          · exact .inr ⟨by simp [Instr.findNow, Instr.sameNow, e3, f1], denE_cons.2 ⟨_, _, _, h1, h2, f2, by simp⟩, f3⟩
      · simp [e] at h
    · cases h

section
variable {P : Program} {ρ : Option Nat} {n : Nat} {ι0 : Env} {ops : Array Oper} {Q : Exit → Act → World → Prop} {rest : List Oper} {ty : TypeId} {ps : String} {af : Array Edge} {st : St} {d : Nat} {op : Op}

theorem setObj_run {r : Nat} {o o' : Obj} (h : w.heap[r]? = some o) (hc : ∀ a b c, o ≠ .cells a b c) : (setObj r o').run P w = .ok () (setB w r o') := by
  cases o <;> first | exact absurd rfl (hc _ _ _) | simp [setObj, Sem.run, h, setB]

theorem JS_put {T : TypeId} {m k x : Operand} {h' : Hp} {r : Option SV} {dfs : List Df} (hop : op = .insert T m k x ∨ op = .mapUpdate T m k x) (h : aPut P st.regs st.hp st.defs T m k x = some (r, h', dfs)) :
    r = none ∧ (JS n F ι0 { st with hp := h', defs := dfs } (wpListIn (Fc ρ) 0 P ops Q rest) → JS n F ι0 st (wpListIn (Fc ρ) 0 P ops Q (⟨none, op, ty, ps, af, none⟩ :: rest))) := by
  unfold aPut at h
  split at h
  rotate_left
  · cases h
  rename_i b kd q v hm hk hx
  split at h
  rotate_left
  · cases h
  rename_i es clock K E hb hT
  cases hI : isIntT P K with
  | false => simp [hI] at h
  | true =>
    simp only [hI, cond_true] at h
    split at h
    rotate_left
    · cases h
    rename_i es' c' hp
    simp only [Option.some.injEq, Prod.mk.injEq] at h
    obtain ⟨rfl, rfl, rfl⟩ := h
    obtain ⟨ik, hik⟩ := isIntT_ok hI
    refine ⟨rfl, fun kk => JS_set hb (fun ι rs ds R hh a w rg p ob hpi ho hw s => ?_) kk⟩
    obtain ⟨mv, a2, a3⟩ := evalS_ok R hm
    obtain ⟨p', hp', rfl⟩ := den_mp a2
    rw [hpi] at hp'; cases hp'
    obtain ⟨kv, b2, b3⟩ := evalS_ok R hk
    cases den_v b2
    obtain ⟨vv, c2, c3⟩ := evalS_ok R hx
    obtain ⟨ms, d1, rfl⟩ := ho
    have hg := getObj_map (P := P) hw
    have hs := fun o' => setObj_run (P := P) (o' := o') hw (fun a b c hh => by cases hh)
    have hck := fun e w => checkKey_int (P := P) (e := e) (kd := kd) (q := q) hik w
    have hrun : ∃ o', ObjIs ι p.2 (.map es' c') o' ∧ (Instr.mapUpdate T (.map (some p.1)) (.int kd q) vv).run P w = .ok () (setB w p.1 o') := by
      rcases mapPut_ok (kk := ik) c2 0 d1 hp with ⟨i, e, f1, f2, f3, f4, f5⟩ | ⟨f1, f2, f3⟩
      · subst f5
        refine ⟨.map (ms.modify i fun e => { e with key := .int kd q, val := vv }).toArray c', ⟨_, f4, rfl⟩, ?_⟩
        have hsame : Instr.sameBits 10000 e.key (.int kd q) = true := by rw [f3]; simp [Instr.sameBits]
        simp only [Nat.zero_add] at f1
        simp [Instr.mapUpdate, underlying, mapElem_ok hT, hg, hck, Instr.findKey, hik, f1, Instr.keyThatStays, f2, hsame, hs]
      · subst f3
        refine ⟨.map (ms ++ [(⟨.int kd q, vv, clock⟩ : MapEntry)]).toArray (clock + 1), ⟨_, f2, rfl⟩, ?_⟩
        simp [Instr.mapUpdate, underlying, mapElem_ok hT, hg, hck, Instr.findKey, hik, f1, hs]
    obtain ⟨o', g1, g2⟩ := hrun
    refine ⟨o', g1, ?_⟩
    rcases hop with rfl | rfl <;> simp [execOp, rg.eval a3, rg.eval b3, rg.eval c3, g2]

end
end Go.Ws
