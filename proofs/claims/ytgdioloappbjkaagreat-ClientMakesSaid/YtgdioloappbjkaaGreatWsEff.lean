/- Acts that yield a value, shown right. -/
import Derived.Test.YtgdioloappbjkaaGreatWsMap
set_option linter.unusedSectionVars false
set_option linter.unusedVariables false
set_option linter.unusedSimpArgs false
namespace Go.Ws
variable [A : Arrs]

section
variable {P : Program} {ρ : Option Nat} {n : Nat} {F : HP} {ι0 : Env} {ops : Array Oper} {Q : Exit → Act → World → Prop} {rest : List Oper} {ty : TypeId} {ps : String} {af : Array Edge} {st : St} {op : Op}

def St.putO (st : St) (dst : Option Nat) (v : SV) : St := match dst with
  | some d => st.put d v
  | none => st

theorem RegsRel.putO {ι : Env} {rg : Rg} {rs : List (Nat × Value)} {a : Act} {ds : List Deferred} (R : RegsRel ι rg rs) (r : Regs n ds rs a) {dst : Option Nat} {sv : SV} {v : Value} (hd : ∀ d, dst = some d → d < n) (hn : n < 2 ^ deep) (h : den ι sv = some v) :
    ∃ rs', RegsRel ι (match dst with | some d => putS rg d sv | none => rg) rs' ∧ Regs n ds rs' (a.put dst v) := by
  cases dst with
  | none => exact ⟨rs, R, r⟩
  | some d => exact ⟨(d, v) :: rs, R.put (by have := hd d rfl; omega) h, r.put (hd d rfl) v⟩

/-- One that yields a value. -/
theorem JS_val {dst : Option Nat} {r : SV} {h' : Hp} (hd : ∀ d, dst = some d → d < n) (hn : n < 2 ^ deep)
    (h : ∀ (ι : Env) (rs : List (Nat × Value)) (ds : List Deferred), RegsRel ι st.regs rs → HD ι st.hp.t → Good ι0 ι st.hp → ∀ (a : Act) (w : World), Regs n ds rs a → Sat w (stars [F, rep ι st.hp.t]) →
      ∃ ι' v w', Good ι0 ι' h' ∧ Ext ι ι' ∧ den ι' r = some v ∧ (execOp a.eval ⟨dst, op, ty, ps, af, none⟩).run P w = .ok (.value v) w' ∧ Sat w' (stars [F, rep ι' h'.t]))
    (k : JS n F ι0 { St.putO st dst r with hp := h' } (wpListIn (Fc ρ) 0 P ops Q rest)) : JS n F ι0 st (wpListIn (Fc ρ) 0 P ops Q (⟨dst, op, ty, ps, af, none⟩ :: rest)) := by
  intro ι rs ds g R hD a w rg s
  obtain ⟨ι', v, w', f1, f2, f3, f4, f5⟩ := h ι rs ds R (rep_HD (rep_frame s)) g a w rg s
  unfold wpListIn
  rw [if_pos (by simp [Region.wanted])]
  refine op_wp (f4) (by simp) ?_
  obtain ⟨rs', q1, q2⟩ := (R.mono f2).putO rg hd hn f3
  have hD' := denD_mono f2 hD
  cases dst with
  | none => exact k ι' rs' ds f1 q1 hD' _ _ q2 f5
  | some d => exact k ι' rs' ds f1 q1 hD' _ _ q2 f5

theorem JS_append {dst : Option Nat} {T T2 : TypeId} {x y : Operand} {h' : Hp} {r : Option SV} {dfs : List Df} (hd : ∀ d, dst = some d → d < n) (hn : n < 2 ^ deep) {e2 : TypeId} (he2 : sliceElem P T2 = some e2)
    (h : aAppend P st.regs st.hp st.defs T x y = some (r, h', dfs)) : ∃ v, r = some v ∧ dfs = st.defs ∧
      (JS n F ι0 { St.putO st dst v with hp := h' } (wpListIn (Fc ρ) 0 P ops Q rest) → JS n F ι0 st (wpListIn (Fc ρ) 0 P ops Q (⟨dst, .call ⟨.builtin .append, #[x, y], #[T, T2]⟩, ty, ps, af, none⟩ :: rest))) := by
  unfold aAppend at h
  split at h
  rotate_left
  · cases h
  rename_i s u hx hy
  split at h
  rotate_left
  · cases h
  rename_i r' h'' ha
  simp only [Option.some.injEq, Prod.mk.injEq] at h
  obtain ⟨rfl, rfl, rfl⟩ := h
  refine ⟨r', rfl, rfl, fun k => JS_val hd hn (fun ι rs ds R hh g a w rg s => ?_) k⟩
  obtain ⟨sv, a2, a3⟩ := evalS_ok R hx
  obtain ⟨xv, b2, b3⟩ := evalS_ok R hy
  obtain ⟨ι', v, w', f1, f2, f3, f4, f5⟩ := appendS_ok (F := F) (ι0 := ι0) (sliceElem_ok he2) hh ha a2 b2 w s g
  refine ⟨ι', v, w', f1, f2, f3, ?_, f5⟩
  have f4' : (Builtin.append_ #[T, T2] ty #[sv, xv]).run P w = .ok v w' := f4
  simp [execOp, resolve, invoke, builtin, rg.eval a3, rg.eval b3, f4']

theorem repeat_all {zs : List Value} (h : zs.all Value.oneCell' = true) (m : Nat) : ((List.replicate m zs).flatten).all Value.oneCell' = true :=
  all_flatten.2 fun r hr => by rw [List.eq_of_mem_replicate hr]; exact h

theorem JS_clear {dst : Option Nat} {T : TypeId} {x : Operand} {h' : Hp} {r : Option SV} {dfs : List Df} (hd : ∀ d, dst = some d → d < n) (hn : n < 2 ^ deep)
    (h : aClear P st.regs st.hp st.defs T x = some (r, h', dfs)) : ∃ v, r = some v ∧ dfs = st.defs ∧
      (JS n F ι0 { St.putO st dst v with hp := h' } (wpListIn (Fc ρ) 0 P ops Q rest) → JS n F ι0 st (wpListIn (Fc ρ) 0 P ops Q (⟨dst, .call ⟨.builtin .clear, #[x], #[T]⟩, ty, ps, af, none⟩ :: rest))) := by
  unfold aClear at h
  split at h
  · rename_i e he hx
    simp only [Option.some.injEq, Prod.mk.injEq] at h
    obtain ⟨rfl, rfl, rfl⟩ := h
    refine ⟨_, rfl, rfl, fun k => JS_val hd hn (fun ι rs ds R hh g a w rg s => ?_) k⟩
    obtain ⟨xv, a2, a3⟩ := evalS_ok R hx
    cases den_v a2
    exact ⟨ι, .tuple #[], w, g, .refl ι, rfl, by simp [execOp, resolve, invoke, builtin, rg.eval a3, Builtin.clear_, underlying, sliceElem_ok he], s⟩
  · rename_i e b o o' q he hx
    simp only [Option.some.injEq, Prod.mk.injEq] at h
    obtain ⟨rfl, rfl, rfl⟩ := h
    refine ⟨_, rfl, rfl, fun k => JS_val hd hn (fun ι rs ds R hh g a w rg s => ?_) k⟩
    obtain ⟨xv, a2, a3⟩ := evalS_ok R hx
    obtain ⟨p, hp, rfl⟩ := den_se a2
    exact ⟨ι, .tuple #[], w, g, .refl ι, rfl, by simp [execOp, resolve, invoke, builtin, rg.eval a3, Builtin.clear_, underlying, sliceElem_ok he], s⟩
  · rename_i e b o m c he hx
    split at h
    rotate_left
    · cases h
    rename_i z ch hz hb
    cases hq : (allOne z && Nat.blt 0 z.length) with
    | false => simp [hq] at h
    | true =>
      simp only [hq, cond_true] at h
      simp only [Bool.and_eq_true] at hq
      have q2 : 0 < z.length := by simpa [Nat.blt_eq] using hq.2
      split at h
      rotate_left
      · cases h
      rename_i cs hcs
      split at h
      rotate_left
      · cases h
      rename_i cs' hsp
      simp only [Option.some.injEq, Prod.mk.injEq] at h
      obtain ⟨rfl, rfl, rfl⟩ := h
      refine ⟨_, rfl, rfl, fun k => JS_val hd hn (fun ι rs ds R hh g a w rg s => ?_) k⟩
      obtain ⟨xv, a2, a3⟩ := evalS_ok R hx
      obtain ⟨p, hp, rfl⟩ := den_sl a2
      obtain ⟨zv, z1, rfl⟩ := zeroT_ok hz
      have hall := allOne_den (ι := ι) hq.1 (dens_v _)
      have hzl : 0 < zv.cells.toList.length := by simpa using q2
      obtain ⟨p', ob, e1, e2, e3⟩ := rep_get (rep_frame s) hb
      rw [hp] at e1; cases e1
      obtain ⟨vs0, sp0, T0, d1, d2⟩ := cs_obj hcs e2
      have hrep := dens_repeat (ι := ι) (dens_v zv.cells.toList) m
      obtain ⟨g1, g2⟩ := spliceS_den d1 hrep hsp
      obtain ⟨vs, sp, T', f1, f2, f3⟩ := setCs_obj hcs e2 g1
      rw [d1] at f1; cases f1
      subst f2
      have hlt : b < st.hp.next := by
        rcases Nat.lt_or_ge b st.hp.next with h' | h'
        · exact h'
        · rw [g.fresh b h'] at hp; cases hp
      have hrun := run_storeCells (P := P) (b := p.1) (o := o) (List.replicate m zv.cells.toList).flatten 0 w (vs0 ++ sp) e3 (by simp only [List.length_append, Nat.add_zero]; omega) (repeat_all hall m)
      simp only [Nat.add_zero] at hrun
      generalize hus : (List.replicate m zv.cells.toList).flatten = us at *
      have e4 : (vs0 ++ sp).take o ++ us ++ (vs0 ++ sp).drop (o + us.length) = vs0.take o ++ us ++ vs0.drop (o + us.length) ++ sp := by
        rw [List.take_append_of_le_length (by omega), List.drop_append_of_le_length (by omega)]; simp
      rw [e4] at hrun
      have s' := rep_set s hb hp (by have := g.small; omega) (f3 (by simp; omega)) (setB_at e3)
      by_cases hm : m = 0
      · subst hm
        have : us = [] := by rw [← hus]; rfl
        subst this
        have hsame : setB w p.1 (.cells (vs0.take o ++ [] ++ vs0.drop (o + ([] : List Value).length) ++ sp).toArray T' (0, 0)) = w := by
          refine setB_same ?_
          rw [e3]; simp
        rw [hsame] at s'
        exact ⟨ι, .tuple #[], w, ⟨g.ext, g.fresh, g.small⟩, .refl ι, rfl, by simp [execOp, resolve, invoke, builtin, rg.eval a3, Builtin.clear_, underlying, sliceElem_ok he], s'⟩
      · have hzr : Builtin.zeroCells zv.cells m = us.toArray := by
          have := zero_rows (zs := zv.cells.toList) hzl m
          rw [hus] at this
          simpa [Builtin.zeroCells] using this
        refine ⟨ι, .tuple #[], _, ⟨g.ext, g.fresh, g.small⟩, .refl ι, rfl, ?_, s'⟩
        have hm' : ∃ m', m = m' + 1 := ⟨m - 1, by omega⟩
        obtain ⟨m', rfl⟩ := hm'
        simp [execOp, resolve, invoke, builtin, rg.eval a3, Builtin.clear_, underlying, sliceElem_ok he, z1, hzr, hrun]
  · cases h

theorem JS_copy {dst : Option Nat} {T T2 : TypeId} {x y : Operand} {h' : Hp} {r : Option SV} {dfs : List Df} (hd : ∀ d, dst = some d → d < n) (hn : n < 2 ^ deep)
    (h : aCopy P st.regs st.hp st.defs T x y = some (r, h', dfs)) : ∃ v, r = some v ∧ dfs = st.defs ∧
      (JS n F ι0 { St.putO st dst v with hp := h' } (wpListIn (Fc ρ) 0 P ops Q rest) → JS n F ι0 st (wpListIn (Fc ρ) 0 P ops Q (⟨dst, .call ⟨.builtin .copy, #[x, y], #[T, T2]⟩, ty, ps, af, none⟩ :: rest))) := by
  unfold aCopy at h
  split at h
  rotate_left
  · cases h
  rename_i e b o nd c src he hx hy
  split at h
  rotate_left
  · cases h
  rename_i k ch hk hb
  split at h
  rotate_left
  · cases h
  rename_i m l cs hsc hcs
  cases hq : (Nat.ble m nd && allOne l) with
  | false => simp [hq] at h
  | true =>
    simp only [hq, cond_true] at h
    simp only [Bool.and_eq_true] at hq
    have hm := Nat.le_of_ble_eq_true hq.1
    split at h
    rotate_left
    · cases h
    rename_i cs' hsp
    simp only [Option.some.injEq, Prod.mk.injEq] at h
    obtain ⟨rfl, rfl, rfl⟩ := h
    refine ⟨_, rfl, rfl, fun k' => JS_val hd hn (fun ι rs ds R hh g a w rg s => ?_) k'⟩
    obtain ⟨xv, a2, a3⟩ := evalS_ok R hx
    obtain ⟨yv, b2, b3⟩ := evalS_ok R hy
    obtain ⟨p, hp, rfl⟩ := den_sl a2
    obtain ⟨us, u1, u2, u3⟩ := sliceCells_ok (P := P) hsc b2 hh
    obtain ⟨l1, l2⟩ := u3 w (rep_frame s)
    have hall := allOne_den hq.2 u1
    obtain ⟨p', ob, e1, e2, e3⟩ := rep_get (rep_frame s) hb
    rw [hp] at e1; cases e1
    obtain ⟨vs0, sp0, T0, d1, d2⟩ := cs_obj hcs e2
    obtain ⟨g1, g2⟩ := spliceS_den d1 u1 hsp
    obtain ⟨vs, sp, T', f1, f2, f3⟩ := setCs_obj hcs e2 g1
    rw [d1] at f1; cases f1
    subst f2
    have hlt : b < st.hp.next := by
      rcases Nat.lt_or_ge b st.hp.next with h' | h'
      · exact h'
      · rw [g.fresh b h'] at hp; cases hp
    have hrun := run_storeCells (P := P) (b := p.1) (o := o) us 0 w (vs0 ++ sp) e3 (by simp only [List.length_append, Nat.add_zero]; omega) hall
    simp only [Nat.add_zero] at hrun
    have e4 : (vs0 ++ sp).take o ++ us ++ (vs0 ++ sp).drop (o + us.length) = vs0.take o ++ us ++ vs0.drop (o + us.length) ++ sp := by
      rw [List.take_append_of_le_length (by omega), List.drop_append_of_le_length (by omega)]; simp
    rw [e4] at hrun
    have s' := rep_set s hb hp (by have := g.small; omega) (f3 (by simp; omega)) (setB_at e3)
    have hmin : Nat.min m nd = m := Nat.min_eq_left hm
    refine ⟨ι, .int .i64 m, _, ⟨g.ext, g.fresh, g.small⟩, .refl ι, rfl, ?_, s'⟩
    simp [execOp, resolve, invoke, builtin, rg.eval a3, rg.eval b3, Builtin.copy_, underlying, sliceElem_ok he, l1, hmin, sizeT_ok hk, l2, hrun, goInt]

end
end Go.Ws
