/- What acts, shown right. -/
import Derived.Test.YtgdioloappbjkaaGreatWsNew
set_option linter.unusedSectionVars false
set_option linter.unusedVariables false
set_option linter.unusedSimpArgs false
namespace Go.Ws
variable [A : Arrs]

/-- Names that may be given. -/
structure Good (ι0 ι : Env) (h : Hp) : Prop where
  ext : Ext ι0 ι
  fresh : ∀ b, h.next ≤ b → ι b = none
  small : h.next + 1 < 2 ^ deep

def denD (ι : Env) : List Df → Option (List Deferred)
  | [] => some []
  | .call f a c :: l => match dens ι a, dens ι c, denD ι l with
    | some x, some y, some m => some (⟨.fn (.func f) y.toArray, x.toArray⟩ :: m)
    | _, _, _ => none
  | .col b :: l => match ι b, denD ι l with
    | some p, some m => some (⟨.collected p.1, #[]⟩ :: m)
    | _, _ => none
  | .stop :: l => denD ι l

theorem denD_cons {ι : Env} {f : FuncId} {a c : List SV} {l : List Df} {ds : List Deferred} : denD ι (.call f a c :: l) = some ds ↔ ∃ x y m, dens ι a = some x ∧ dens ι c = some y ∧ denD ι l = some m ∧ ds = ⟨.fn (.func f) y.toArray, x.toArray⟩ :: m := by
  simp only [denD]
  cases dens ι a <;> cases dens ι c <;> cases denD ι l <;> simp [eq_comm]

theorem denD_col {ι : Env} {b : Nat} {l : List Df} {ds : List Deferred} : denD ι (.col b :: l) = some ds ↔ ∃ p m, ι b = some p ∧ denD ι l = some m ∧ ds = ⟨.collected p.1, #[]⟩ :: m := by
  simp only [denD]
  cases ι b <;> cases denD ι l <;> simp [eq_comm]

theorem denD_mono {ι ι' : Env} (e : Ext ι ι') : ∀ {l : List Df} {ds : List Deferred}, denD ι l = some ds → denD ι' l = some ds
  | [], ds, h => by simpa [denD] using h
  | .call f a c :: l, ds, h => by
    obtain ⟨x, y, m, h1, h2, h3, h4⟩ := denD_cons.1 h
    exact denD_cons.2 ⟨x, y, m, dens_mono e h1, dens_mono e h2, denD_mono e h3, h4⟩
  | .col b :: l, ds, h => by
    obtain ⟨p, m, h1, h2, h3⟩ := denD_col.1 h
    exact denD_col.2 ⟨p, m, e _ _ h1, denD_mono e h2, h3⟩
  | .stop :: l, ds, h => denD_mono (l := l) e h

/-- From such a state, 'G' holds. -/
def JS (n : Nat) (F : HP) (ι0 : Env) (st : St) (G : Act → World → Prop) : Prop :=
  ∀ (ι : Env) (rs : List (Nat × Value)) (ds : List Deferred), Good ι0 ι st.hp → RegsRel ι st.regs rs → denD ι st.defs = some ds → J n ds rs [F, rep ι st.hp.t] G

theorem J_sat {n : Nat} {ds : List Deferred} {rs : List (Nat × Value)} {H : List HP} {G : Act → World → Prop} {φ : Prop} (h : ∀ w, Sat w (stars H) → φ) (g : φ → J n ds rs H G) : J n ds rs H G :=
  fun a w r s => g (h w s) a w r s

theorem RegsRel.mono {ι ι' : Env} {rg : Rg} {rs : List (Nat × Value)} (R : RegsRel ι rg rs) (e : Ext ι ι') : RegsRel ι' rg rs := fun t sv h =>
  let ⟨v, h1, h2⟩ := R t sv h; ⟨v, den_mono e h1, h2⟩

theorem RegsRel.put {ι : Env} {rg : Rg} {rs : List (Nat × Value)} (R : RegsRel ι rg rs) {d : Nat} {sv : SV} {v : Value} (hd : d + 1 < 2 ^ deep) (h : den ι sv = some v) : RegsRel ι (putS rg d sv) ((d, v) :: rs) := fun t sv' ht => by
  unfold lookS putS at ht
  rw [Tri.get_set _ _ _ _ _ hd] at ht
  simp only [lookR]
  by_cases e : t = d
  · subst e
    rw [if_pos rfl] at ht
    cases ht
    exact ⟨v, h, by simp [Nat.beq_refl]⟩
  · rw [if_neg e] at ht
    obtain ⟨u, h1, h2⟩ := R t sv' ht
    have hb : Nat.beq d t = false := by
      cases hb : Nat.beq d t with
      | false => rfl
      | true => exact absurd (Nat.eq_of_beq_eq_true hb).symm e
    exact ⟨u, h1, by simpa [hb] using h2⟩

theorem VOp.frame {P : Program} {n : Nat} {ds : List Deferred} {rs : List (Nat × Value)} {F : HP} {H : List HP} {φ : World → Prop} {op : Op} {v : Value} (h : VOp P n ds rs H φ op v) : VOp P n ds rs (F :: H) φ op v :=
  ⟨fun w s => h.1 w (s.ent .drop), h.2⟩

section
variable {P : Program} {ρ : Option Nat} {n : Nat} {F : HP} {ι0 : Env} {ops : Array Oper} {Q : Exit → Act → World → Prop} {rest : List Oper} {ty : TypeId} {ps : String} {af : Array Edge} {st : St} {d : Nat} {op : Op}

theorem also_conds (h : Hp) (cs : List (Bool × Bool)) : (h.also cs).conds = cs ++ h.conds := by cases cs <;> rfl
theorem also_t (h : Hp) (cs : List (Bool × Bool)) : (h.also cs).t = h.t := by cases cs <;> rfl
theorem also_next (h : Hp) (cs : List (Bool × Bool)) : (h.also cs).next = h.next := by cases cs <;> rfl

theorem JS_V {r : SV × List Fact} (h : evalV P st.regs st.hp.t op = some r) (hN : ∀ c ∈ needs r.2, c.1 = c.2) (hd : d < n) (hn : n < 2 ^ deep) (k : JS n F ι0 { st.put d r.1 with hp := st.hp.also (needs r.2) } (wpListIn (Fc ρ) 0 P ops Q rest)) :
    JS n F ι0 st (wpListIn (Fc ρ) 0 P ops Q (⟨some d, op, ty, ps, af, none⟩ :: rest)) := by
  intro ι rs ds g R hD
  refine J_sat (φ := HD ι st.hp.t) (fun w s => rep_HD (s.ent .drop)) fun hh => ?_
  obtain ⟨v, h1, h2⟩ := evalV_ok (P := P) (n := n) (ds := ds) hh R h hN
  have k' := k ι _ ds ⟨g.ext, by show ∀ b, (st.hp.also _).next ≤ b → _; rw [also_next]; exact g.fresh, by show (st.hp.also _).next + 1 < _; rw [also_next]; exact g.small⟩ (R.put (by omega) h1) hD
  rw [show ({ st.put d r.1 with hp := st.hp.also (needs r.2) } : St).hp.t = st.hp.t from also_t _ _] at k'
  exact J_V h2.frame hd k'

theorem JS_N {r : Ch × (Nat → SV)} (h : evalN P st.regs op = some r) (hd : d < n) (hn : n < 2 ^ deep) (hs : st.hp.next + 2 < 2 ^ deep)
    (k : JS n F ι0 { st.put d (r.2 st.hp.next) with hp := st.hp.add r.1 } (wpListIn (Fc ρ) 0 P ops Q rest)) :
    JS n F ι0 st (wpListIn (Fc ρ) 0 P ops Q (⟨some d, op, ty, ps, af, none⟩ :: rest)) := by
  intro ι rs ds g R hD
  obtain ⟨ob, mk, h1, h2, h3⟩ := evalN_ok (P := P) (n := n) (ds := ds) R h
  intro a w rg s
  unfold wpListIn
  rw [if_pos (by simp [Region.wanted])]
  refine op_wp (h3 _ rfl a w rg) (by simp) ?_
  have hf := g.fresh _ (Nat.le_refl _)
  have e : Ext ι (ι.add st.hp.next (w.heap.size, 0)) := Env.add_ext hf
  refine k (ι.add st.hp.next (w.heap.size, 0)) ((d, mk w.heap.size) :: rs) ds ⟨g.ext.trans e, fun b hb => ?_, hs⟩
    ((R.mono e).put (by omega) (h2 _ _ _ _ (Env.add_self _ _ _))) (denD_mono e hD) _ _ (rg.put hd _) (rep_new s hf g.small ((h1 0).mono e) .alloc)
  have hb' : st.hp.next + 1 ≤ b := hb
  simp only [Env.add, if_neg (show b ≠ st.hp.next by omega)]
  exact g.fresh b (by omega)

/-- One that turns a block, and yields nothing. -/
theorem JS_set {b : Nat} {c c' : Ch} (hb : st.hp.t.get b = some c)
    (h : ∀ (ι : Env) (rs : List (Nat × Value)) (ds : List Deferred), RegsRel ι st.regs rs → HD ι st.hp.t → ∀ (a : Act) (w : World), Regs n ds rs a → ∀ p o, ι b = some p → ObjIs ι p.2 c o → w.heap[p.1]? = some o → Sat w (stars [rep ι st.hp.t]) →
      ∃ o', ObjIs ι p.2 c' o' ∧ (execOp a.eval ⟨none, op, ty, ps, af, none⟩).run P w = .ok .skip (setB w p.1 o'))
    (k : JS n F ι0 { st with hp := st.hp.set b c' } (wpListIn (Fc ρ) 0 P ops Q rest)) : JS n F ι0 st (wpListIn (Fc ρ) 0 P ops Q (⟨none, op, ty, ps, af, none⟩ :: rest)) := by
  intro ι rs ds g R hD a w rg s
  have s1 := rep_frame s
  obtain ⟨p, o, e1, e2, e3⟩ := rep_get s1 hb
  obtain ⟨o', f1, f2⟩ := h ι rs ds R (rep_HD s1) a w rg p o e1 e2 e3 s1
  have hlt : b < st.hp.next := by
    rcases Nat.lt_or_ge b st.hp.next with h' | h'
    · exact h'
    · rw [g.fresh b h'] at e1; cases e1
  have s2 := rep_set s hb e1 (by have := g.small; omega) f1 (setB_at e3)
  unfold wpListIn
  rw [if_pos (by simp [Region.wanted])]
  refine op_wp (f2) (by simp) ?_
  exact k ι rs ds ⟨g.ext, g.fresh, g.small⟩ R hD _ _ rg s2

theorem setCs_obj {ι : Env} {c : Ch} {cs cs' : List SV} {cap : Nat} {o : Obj} (h : c.cs? = some cs) (ho : ObjIs ι cap c o) {vs' : List Value} (hd : dens ι cs' = some vs') :
    ∃ vs sp T, dens ι cs = some vs ∧ o = .cells (vs ++ sp).toArray T (0, 0) ∧ (vs'.length = vs.length → ObjIs ι cap (setCs c cs') (.cells (vs' ++ sp).toArray T (0, 0))) := by
  cases c with
  | cells T cs' => simp [Ch.cs?] at h; subst h; obtain ⟨vs, h1, h2⟩ := ho; exact ⟨vs, [], T, h1, by simpa using h2, fun _ => ⟨vs', hd, by simp⟩⟩
  | more T sz cs' => simp [Ch.cs?] at h; subst h; obtain ⟨vs, sp, h1, h2, h3⟩ := ho; exact ⟨vs, sp, T, h1, h2, fun e => ⟨vs', sp, hd, rfl, by rw [e]; exact h3⟩⟩
  | map es c => simp [Ch.cs?] at h
  | iter a b c d => simp [Ch.cs?] at h
  | dfr l => simp [Ch.cs?] at h
  | loop => simp [Ch.cs?] at h

theorem JS_store {T : TypeId} {x y : Operand} {h' : Hp} {r : Option SV} {dfs : List Df} (h : aStore P st.regs st.hp st.defs T x y = some (r, h', dfs)) :
    r = none ∧ (JS n F ι0 { st with hp := h', defs := dfs } (wpListIn (Fc ρ) 0 P ops Q rest) → JS n F ι0 st (wpListIn (Fc ρ) 0 P ops Q (⟨none, .store T x y, ty, ps, af, none⟩ :: rest))) := by
  unfold aStore at h
  split at h
  rotate_left
  · cases h
  rename_i b o v sz hx hy hsz
  split at h
  rotate_left
  · cases h
  rename_i l c hl hb
  cases hq : (Nat.beq l.length sz && allOne l) with
  | false => simp [hq] at h
  | true =>
    simp only [hq, cond_true] at h
    simp only [Bool.and_eq_true] at hq
    have q1 := Nat.eq_of_beq_eq_true hq.1
    split at h
    rotate_left
    · cases h
    rename_i cs hcs
    split at h
    rotate_left
    · cases h
    rename_i cs' hsp
    simp only [Option.some.injEq, Prod.mk.injEq] at h
    obtain ⟨rfl, rfl, rfl⟩ := h
    refine ⟨rfl, fun k => JS_set hb (fun ι rs ds R hh a w rg p ob hp ho hw s => ?_) k⟩
    obtain ⟨xv, a2, a3⟩ := evalS_ok R hx
    obtain ⟨p', hp', rfl⟩ := den_ptr a2
    rw [hp] at hp'; cases hp'
    obtain ⟨u, b2, b3⟩ := evalS_ok R hy
    obtain ⟨us, c1, c2⟩ := cellsS_den hl b2
    obtain ⟨vs0, sp0, T0, d1, d2⟩ := cs_obj hcs ho
    obtain ⟨e1, e2⟩ := spliceS_den d1 c1 hsp
    obtain ⟨vs, sp, T', f1, f2, f3⟩ := setCs_obj hcs ho e1
    rw [d1] at f1; cases f1
    subst f2
    have hall := allOne_den hq.2 c1
    have hrun := run_storeCells (P := P) (b := p.1) (o := o) us 0 w (vs0 ++ sp) hw (by simp; omega) hall
    simp only [Nat.add_zero] at hrun
    have hlen : us.length = sz := by rw [dens_len c1]; exact q1
    refine ⟨_, f3 (by simp; omega), ?_⟩
    have e4 : (vs0 ++ sp).take o ++ us ++ (vs0 ++ sp).drop (o + us.length) = vs0.take o ++ us ++ vs0.drop (o + us.length) ++ sp := by
      rw [List.take_append_of_le_length (by omega), List.drop_append_of_le_length (by omega)]; simp
    rw [e4] at hrun
    simp [execOp, rg.eval a3, rg.eval b3, Instr.storeAt, Instr.sureAddr, storeVar, c2, sizeT_ok hsz, hlen, hrun]

end
end Go.Ws
