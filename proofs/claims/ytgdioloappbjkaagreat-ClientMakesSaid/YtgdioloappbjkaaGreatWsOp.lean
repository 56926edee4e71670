/- One operation, a region, shown right. -/
import Derived.Test.YtgdioloappbjkaaGreatWsCl
set_option linter.unusedSectionVars false
set_option linter.unusedVariables false
set_option linter.unusedSimpArgs false
namespace Go.Ws
variable [A : Arrs]

section
variable {P : Program} {ρ : Option Nat} {n : Nat} {F : HP} {ι0 : Env} {ops : Array Oper} {Q : Exit → Act → World → Prop} {rest : List Oper} {ty : TypeId} {ps : String} {af : Array Edge} {st st' : St} {op : Op} {call : CallR}

theorem doneA_some {dst : Option Nat} {v : SV} {h : Hp} {ds : List Df} (hh : doneA st dst (some (some v, h, ds)) = some st') (hd : ds = st.defs) : st' = { St.putO st dst v with hp := h } := by
  cases dst <;> simp [doneA] at hh <;> subst hd <;> rw [← hh] <;> rfl

/-- One that yields nothing. -/
theorem done_none {dst : Option Nat} {x : AR} (h : doneA st dst x = some st') (hx : ∀ r h' dfs, x = some (r, h', dfs) → r = none ∧ (JS n F ι0 { st with hp := h', defs := dfs } (wpListIn (Fc ρ) 0 P ops Q rest) → JS n F ι0 st (wpListIn (Fc ρ) 0 P ops Q (⟨none, op, ty, ps, af, none⟩ :: rest))))
    (k : JS n F ι0 st' (wpListIn (Fc ρ) 0 P ops Q rest)) : JS n F ι0 st (wpListIn (Fc ρ) 0 P ops Q (⟨dst, op, ty, ps, af, none⟩ :: rest)) := by
  cases x with
  | none => cases h
  | some r =>
    obtain ⟨r, h', dfs⟩ := r
    obtain ⟨rfl, hk⟩ := hx _ _ _ rfl
    cases dst with
    | some d => cases h
    | none => simp only [doneA, Option.some.injEq] at h; subst h; exact hk k

/-- One that yields a value. -/
theorem done_some {dst : Option Nat} {x : AR} (h : doneA st dst x = some st') (hx : ∀ r h' dfs, x = some (r, h', dfs) → st'.hp = h' → ∃ v, r = some v ∧ dfs = st.defs ∧ (JS n F ι0 { St.putO st dst v with hp := h' } (wpListIn (Fc ρ) 0 P ops Q rest) → JS n F ι0 st (wpListIn (Fc ρ) 0 P ops Q (⟨dst, op, ty, ps, af, none⟩ :: rest))))
    (k : JS n F ι0 st' (wpListIn (Fc ρ) 0 P ops Q rest)) : JS n F ι0 st (wpListIn (Fc ρ) 0 P ops Q (⟨dst, op, ty, ps, af, none⟩ :: rest)) := by
  cases x with
  | none => cases h
  | some r =>
    obtain ⟨r, h', dfs⟩ := r
    have hhp : st'.hp = h' := by
      cases r <;> cases dst <;> simp [doneA] at h <;> rw [← h]
    obtain ⟨v, rfl, rfl, hk⟩ := hx _ _ _ rfl hhp
    rw [doneA_some h rfl] at k
    exact hk k

theorem actS_ok (hc : CallOK P call) (ho : Holds st'.hp) (hρ : Kind ρ st.defs) {dst : Option Nat} (hd : ∀ d, dst = some d → d < n) (hn : n < 2 ^ deep) (h : doneA st dst (actS P call st.regs st.hp st.defs op) = some st')
    (k : JS n F ι0 st' (wpListIn (Fc ρ) 0 P ops Q rest)) : JS n F ι0 st (wpListIn (Fc ρ) 0 P ops Q (⟨dst, op, ty, ps, af, none⟩ :: rest)) := by
  unfold actS at h
  split at h
  · exact done_none h (fun _ _ _ e => JS_store e) k
  · exact done_none h (fun _ _ _ e => JS_put (.inl rfl) e) k
  · exact done_none h (fun _ _ _ e => JS_put (.inr rfl) e) k
  · rename_i b args aT
    have ha : args = args.toList.toArray := by simp
    have hT : aT = aT.toList.toArray := by simp
    rw [ha, hT]
    generalize args.toList = l at h
    generalize aT.toList = m at h
    unfold aBuiltin at h
    split at h
    · split at h
      · rename_i he; exact done_some h (fun _ _ _ e _ => JS_append hd hn he e) k
      · cases h
    · exact done_some h (fun _ _ _ e _ => JS_clear hd hn e) k
    · exact done_some h (fun _ _ _ e _ => JS_copy hd hn e) k
    · cases h
  · exact done_some h (fun _ _ _ e hh => JS_call hc hd hn e (hh ▸ ho)) k
  · refine done_none h (fun r h' dfs e => ?_) k
    obtain ⟨h1, h2, _, h3⟩ := JS_defer (P := P) (n := n) (F := F) (ι0 := ι0) (ops := ops) (Q := Q) (rest := rest) (ty := ty) (ps := ps) (af := af) hρ e
    subst h2
    exact ⟨h1, h3⟩
  · exact done_some h (fun _ _ _ e _ => JS_range hd hn e) k
  · exact done_some h (fun _ _ _ e _ => JS_next hd hn e) k
  · cases h

theorem dstOk_ok {dst : Option Nat} (h : dstOk n dst = true) : ∀ d, dst = some d → d < n := fun d e => by subst e; simpa [dstOk, Nat.blt_eq] using h

theorem hpOk {h : Hp} (hok : h.ok = true) : h.next + 2 < 2 ^ deep := by
  have : h.next < 1000000000000 := by simpa [Hp.ok, Nat.blt_eq] using hok
  show h.next + 2 < 1099511627776
  omega

/-- One operation. -/
theorem opS_ok (hc : CallOK P call) (ho : Holds st'.hp) (hρ : Kind ρ st.defs) (hn : n < 2 ^ deep) {dst : Option Nat} (h : opS P call n st dst op = some st') (k : JS n F ι0 st' (wpListIn (Fc ρ) 0 P ops Q rest)) :
    JS n F ι0 st (wpListIn (Fc ρ) 0 P ops Q (⟨dst, op, ty, ps, af, none⟩ :: rest)) := by
  unfold opS at h
  cases hd : dstOk n dst with
  | false => rw [hd] at h; cases h
  | true =>
    rw [hd, cond_true] at h
    have hd := dstOk_ok hd
    split at h
    · rename_i v fs hv
      cases dst with
      | none => cases h
      | some d =>
        simp only [Option.some.injEq] at h; subst h
        exact JS_V hv (fun c hc' => ho c (by show c ∈ (st.hp.also (needs fs)).conds; rw [also_conds]; simp [hc'])) (hd d rfl) hn k
    · split at h
      · rename_i ch mk hm
        cases dst with
        | none => cases h
        | some d =>
          simp only at h
          cases hok : st.hp.ok with
          | false => rw [hok] at h; cases h
          | true =>
            rw [hok, cond_true, Option.some.injEq] at h; subst h
            exact JS_N hm (hd d rfl) hn (hpOk hok) k
      · exact actS_ok hc ho hρ hd hn h k

/-- What is asked: an answer more, the register told; no more. -/
theorem askB_ok {t : Nat} {b : Bool} (h : askB st t = some (b, st')) : Grows st.hp st'.hp ∧ st'.defs = st.defs ∧ st'.hp.t = st.hp.t ∧ st'.hp.next = st.hp.next ∧
    (Holds st'.hp → ∀ {ι : Env} {rs : List (Nat × Value)}, RegsRel ι st.regs rs → RegsRel ι st'.regs rs ∧ lookR rs t = some (.bool b)) := by
  unfold askB at h
  split at h
  · rename_i b' hl
    simp only [Option.some.injEq, Prod.mk.injEq] at h
    obtain ⟨rfl, rfl⟩ := h
    refine ⟨.refl _, rfl, rfl, rfl, fun _ ι rs R => ⟨R, ?_⟩⟩
    obtain ⟨v, h1, h2⟩ := R _ _ hl
    cases den_v h1
    exact h2
  · rename_i c hl
    cases hb : Nat.blt t 100000 with
    | false => rw [hb] at h; cases h
    | true =>
      rw [hb, cond_true] at h
      have ht : t < 100000 := by simpa [Nat.blt_eq] using hb
      split at h
      rotate_left
      · cases h
      rename_i b' l ha
      simp only [Option.some.injEq, Prod.mk.injEq] at h
      obtain ⟨rfl, rfl⟩ := h
      refine ⟨⟨[(c, b')], rfl⟩, rfl, rfl, rfl, fun ho ι rs R => ?_⟩
      have hcb : c = b' := ho (c, b') (by simp)
      obtain ⟨v, h1, h2⟩ := R _ _ hl
      simp only [den, Option.some.injEq] at h1; subst h1
      refine ⟨fun s sv hs => ?_, by rw [h2, hcb]⟩
      have hd : t + 1 < 2 ^ deep := by show t + 1 < 1099511627776; omega
      have hs' : (st.regs.set deep t (.v (.bool b'))).get s = some sv := hs
      rw [Tri.get_set _ _ _ _ _ hd] at hs'
      by_cases e : s = t
      · rw [if_pos e] at hs'; cases hs'
        exact ⟨.bool b', rfl, by rw [e, h2, hcb]⟩
      · rw [if_neg e] at hs'; exact R s sv hs'
  · cases h

theorem wantS_ok {g : Option (Nat × Bool)} {b : Bool} (h : wantS ops st g = some (b, st')) : Grows st.hp st'.hp ∧ st'.defs = st.defs ∧ st'.hp.t = st.hp.t ∧ st'.hp.next = st.hp.next ∧
    (Holds st'.hp → ∀ {ι : Env} {rs : List (Nat × Value)}, RegsRel ι st.regs rs → RegsRel ι st'.regs rs ∧
      ((g = none ∧ b = true) ∨ ∃ j want t bb, g = some (j, want) ∧ dstOf ops j = some t ∧ lookR rs t = some (.bool bb) ∧ b = (bb == want))) := by
  unfold wantS at h
  split at h
  · simp only [Option.some.injEq, Prod.mk.injEq] at h
    obtain ⟨rfl, rfl⟩ := h
    exact ⟨.refl _, rfl, rfl, rfl, fun _ ι rs R => ⟨R, .inl ⟨rfl, rfl⟩⟩⟩
  · rename_i j want
    split at h
    rotate_left
    · cases h
    rename_i t ht
    split at h
    rotate_left
    · cases h
    rename_i bb st1 hb
    simp only [Option.some.injEq, Prod.mk.injEq] at h
    obtain ⟨rfl, rfl⟩ := h
    obtain ⟨a1, a2, a3, a4, a5⟩ := askB_ok hb
    refine ⟨a1, a2, a3, a4, fun ho ι rs R => ?_⟩
    obtain ⟨k1, k2⟩ := a5 ho R
    exact ⟨k1, .inr ⟨j, want, t, bb, rfl, ht, k2, rfl⟩⟩

/-- A state in which a truth value was asked for. -/
theorem JS_same {st st' : St} {G : Act → World → Prop} (hd : st'.defs = st.defs) (ht : st'.hp.t = st.hp.t) (hn : st'.hp.next = st.hp.next) (hr : ∀ {ι : Env} {rs : List (Nat × Value)}, RegsRel ι st.regs rs → RegsRel ι st'.regs rs) (k : JS n F ι0 st' G) : JS n F ι0 st G := by
  intro ι rs ds g R hD
  have := k ι rs ds ⟨g.ext, by rw [hn]; exact g.fresh, by rw [hn]; exact g.small⟩ (hr R) (by rw [hd]; exact hD)
  rwa [ht] at this

end

section
variable {P : Program} {ρ : Option Nat} {call : CallR} {rg : Rg} {h h' : Hp} {ds ds' : List Df} {r : Option SV}

theorem aStore_defs {T : TypeId} {x y : Operand} (e : aStore P rg h ds T x y = some (r, h', ds')) : ds' = ds := by
  unfold aStore at e
  simp only [Bool.cond_eq_ite] at e
  repeat' (split at e)
  all_goals first | (cases e; rfl) | cases e

theorem aPut_defs {T : TypeId} {m k x : Operand} (e : aPut P rg h ds T m k x = some (r, h', ds')) : ds' = ds := by
  unfold aPut at e
  simp only [Bool.cond_eq_ite] at e
  repeat' (split at e)
  all_goals first | (cases e; rfl) | cases e

theorem aAppend_defs {T : TypeId} {x y : Operand} (e : aAppend P rg h ds T x y = some (r, h', ds')) : ds' = ds := by
  unfold aAppend at e
  repeat' (split at e)
  all_goals first | (cases e; rfl) | cases e

theorem aClear_defs {T : TypeId} {x : Operand} (e : aClear P rg h ds T x = some (r, h', ds')) : ds' = ds := by
  unfold aClear at e
  simp only [Bool.cond_eq_ite] at e
  repeat' (split at e)
  all_goals first | (cases e; rfl) | cases e

theorem aCopy_defs {T : TypeId} {x y : Operand} (e : aCopy P rg h ds T x y = some (r, h', ds')) : ds' = ds := by
  unfold aCopy at e
  simp only [Bool.cond_eq_ite] at e
  repeat' (split at e)
  all_goals first | (cases e; rfl) | cases e

theorem aCall_defs {f : Operand} {args : List Operand} (e : aCall call rg h ds f args = some (r, h', ds')) : ds' = ds := by
  unfold aCall at e
  repeat' (split at e)
  all_goals first | (cases e; rfl) | cases e
end

theorem opS_defs {P : Program} {call : CallR} {n : Nat} {st st' : St} {dst : Option Nat} {op : Op} (hn : isDefer op = false) (h : opS P call n st dst op = some st') : st'.defs = st.defs := by
  have done : ∀ {x : AR}, (∀ r h' dfs, x = some (r, h', dfs) → dfs = st.defs) → doneA st dst x = some st' → st'.defs = st.defs := fun {x} hx hh => by
    cases x with
    | none => cases hh
    | some r =>
      obtain ⟨r, h', dfs⟩ := r
      have := hx _ _ _ rfl
      subst this
      cases r <;> cases dst <;> simp [doneA] at hh <;> rw [← hh]
  unfold opS at h
  cases hd : dstOk n dst with
  | false => rw [hd] at h; cases h
  | true =>
    rw [hd, cond_true] at h
    split at h
    · cases dst <;> simp at h
      rw [← h]; rfl
    · split at h
      · cases dst with
        | none => cases h
        | some d =>
          simp only at h
          cases hok : st.hp.ok with
          | false => rw [hok] at h; cases h
          | true => rw [hok, cond_true, Option.some.injEq] at h; rw [← h]; rfl
      · refine done (fun r h' dfs e => ?_) h
        unfold actS at e
        split at e
        · exact aStore_defs e
        · exact aPut_defs e
        · exact aPut_defs e
        · unfold aBuiltin at e
          split at e
          · split at e
            · exact aAppend_defs e
            · cases e
          · exact aClear_defs e
          · exact aCopy_defs e
          · cases e
        · exact aCall_defs e
        · cases hn
        · unfold aRange at e
          simp only [Bool.cond_eq_ite] at e
          repeat' (split at e)
          all_goals first | (cases e; rfl) | cases e
        · unfold aNext at e
          repeat' (split at e)
          all_goals first | (cases e; rfl) | cases e
        · cases e

theorem appendS_conds {P : Program} {T : TypeId} {s x v : SV} {h h' : Hp} (e : appendS P T s x h = some (v, h')) : h'.conds = h.conds := by
  unfold appendS appendTo appendAt at e
  simp only [Bool.cond_eq_ite] at e
  repeat' (split at e)
  all_goals first | (cases e; rfl) | cases e

theorem opS_grows {P : Program} {call : CallR} (hc : CallOK P call) {n : Nat} {st st' : St} {dst : Option Nat} {op : Op} (h : opS P call n st dst op = some st') : Grows st.hp st'.hp := by
  have done : ∀ {x : AR}, (∀ r h' dfs, x = some (r, h', dfs) → Grows st.hp h') → doneA st dst x = some st' → Grows st.hp st'.hp := fun {x} hx hh => by
    cases x with
    | none => cases hh
    | some r =>
      obtain ⟨r, h', dfs⟩ := r
      have := hx _ _ _ rfl
      cases r <;> cases dst <;> simp [doneA] at hh <;> rw [← hh] <;> exact this
  unfold opS at h
  cases hd : dstOk n dst with
  | false => rw [hd] at h; cases h
  | true =>
    rw [hd, cond_true] at h
    split at h
    · cases dst <;> simp at h
      rw [← h]; exact also_grows _ _
    · split at h
      · cases dst with
        | none => cases h
        | some d =>
          simp only at h
          cases hok : st.hp.ok with
          | false => rw [hok] at h; cases h
          | true => rw [hok, cond_true, Option.some.injEq] at h; rw [← h]; exact .same rfl
      · refine done (fun r h' dfs e => ?_) h
        unfold actS at e
        split at e
        · unfold aStore at e
          simp only [Bool.cond_eq_ite] at e
          repeat' (split at e)
          all_goals first | (cases e; exact .same rfl) | cases e
        · unfold aPut at e
          simp only [Bool.cond_eq_ite] at e
          repeat' (split at e)
          all_goals first | (cases e; exact .same rfl) | cases e
        · unfold aPut at e
          simp only [Bool.cond_eq_ite] at e
          repeat' (split at e)
          all_goals first | (cases e; exact .same rfl) | cases e
        · unfold aBuiltin at e
          split at e
          · split at e
            · unfold aAppend at e
              repeat' (split at e)
              all_goals first | (rename_i hh; cases e; exact .same (appendS_conds hh)) | cases e
            · cases e
          · unfold aClear at e
            simp only [Bool.cond_eq_ite] at e
            repeat' (split at e)
            all_goals first | (cases e; exact .same rfl) | cases e
          · unfold aCopy at e
            simp only [Bool.cond_eq_ite] at e
            repeat' (split at e)
            all_goals first | (cases e; exact .same rfl) | cases e
          · cases e
        · unfold aCall at e
          repeat' (split at e)
          all_goals first | (rename_i hh; cases e; exact hc.grows _ _ _ _ _ hh) | cases e
        · unfold aDefer at e
          simp only [Bool.cond_eq_ite] at e
          repeat' (split at e)
          all_goals first | (cases e; exact .refl _) | cases e
        · unfold aRange at e
          simp only [Bool.cond_eq_ite] at e
          repeat' (split at e)
          all_goals first | (cases e; exact .same rfl) | cases e
        · unfold aNext at e
          repeat' (split at e)
          all_goals first | (cases e; exact .refl _) | cases e
        · cases e

theorem opS_kind {P : Program} {ρ : Option Nat} {call : CallR} {n : Nat} {st st' : St} {dst : Option Nat} {op : Op} (hρ : Kind ρ st.defs) (h : opS P call n st dst op = some st') : Kind ρ st'.defs := by
  rcases hρ with hρ | hρ
  · exact .inl hρ
  · cases hd : isDefer op with
    | false => rw [opS_defs hd h]; exact .inr hρ
    | true =>
      exfalso
      cases op <;> simp [isDefer] at hd
      rename_i c
      unfold opS at h
      cases h1 : dstOk n dst with
      | false => rw [h1] at h; cases h
      | true =>
        rw [h1, cond_true] at h
        simp only [evalV, evalN] at h
        unfold actS at h
        split at h
        all_goals first | (simp [doneA] at h; done) | skip
        all_goals simp_all [aDefer, doneA]

section
variable {P : Program} {ρ : Option Nat} {n : Nat} {F : HP} {ι0 : Env} {ops : Array Oper} {Q : Exit → Act → World → Prop} {rest : List Oper} {ty : TypeId} {ps : String} {af : Array Edge} {st st' : St} {op : Op} {call : CallR}

theorem opsS_grows (hc : CallOK P call) : ∀ {l : List Oper} {st st' : St}, opsS P call n ops l st = some st' → Grows st.hp st'.hp
  | [], st, st', h => by simp only [opsS, Option.some.injEq] at h; subst h; exact .refl _
  | o :: l, st, st', h => by
    simp only [opsS] at h
    split at h
    · rename_i st0 hw
      split at h
      rotate_left
      · cases h
      rename_i st1 h1
      exact (wantS_ok hw).1.trans ((opS_grows hc h1).trans (opsS_grows hc h))
    · rename_i st0 hw
      split at h
      rotate_left
      · cases h
      simp only [Bool.cond_eq_ite] at h
      split at h
      rotate_left
      · cases h
      rename_i d _ _
      exact (wantS_ok hw).1.trans (opsS_grows hc (st := st0.put d (.v undef)) h)
    · cases h

/-- A region in its order. -/
theorem opsS_ok (hc : CallOK P call) (hn : n < 2 ^ deep) : ∀ {l : List Oper} {st st' : St}, Kind ρ st.defs → opsS P call n ops l st = some st' → Holds st'.hp → JS n F ι0 st' (Q .normal) → JS n F ι0 st (wpListIn (Fc ρ) 0 P ops Q l)
  | [], st, st', _, h, _, k => by
    simp only [opsS, Option.some.injEq] at h; subst h
    exact fun ι rs ds g R hD => J_nil (k ι rs ds g R hD)
  | o :: l, st, st', hρ, h, ho, k => by
    obtain ⟨dst, op, ty, ps, af, g⟩ := o
    simp only [opsS] at h
    split at h
    · rename_i st0 hw
      obtain ⟨w1, w2, w3, w4, w5⟩ := wantS_ok hw
      split at h
      rotate_left
      · cases h
      rename_i st1 h1
      have hρ0 : Kind ρ st0.defs := by rw [w2]; exact hρ
      have ho1 := (opsS_grows hc h).holds ho
      have ho0 := (opS_grows hc h1).holds ho1
      have key := opS_ok (F := F) (ι0 := ι0) (ops := ops) (Q := Q) (rest := l) (ty := ty) (ps := ps) (af := af) hc ho1 hρ0 hn h1 (opsS_ok hc hn (opS_kind hρ0 h1) h ho k)
      intro ι rs ds gd R hD
      obtain ⟨R0, hg⟩ := w5 ho0 R
      have g0 : Good ι0 ι st0.hp := ⟨gd.ext, by rw [w4]; exact gd.fresh, by rw [w4]; exact gd.small⟩
      have hD0 : denD ι st0.defs = some ds := by rw [w2]; exact hD
      have k1 := key ι rs ds g0 R0 hD0
      rw [w3] at k1
      rcases hg with ⟨rfl, _⟩ | ⟨j, want, t, bb, rfl, h2, h3, h4⟩
      · exact k1
      · have : bb = want := by simpa using h4.symm
        subst this
        exact J_on h2 h3 k1
    · rename_i st0 hw
      obtain ⟨w1, w2, w3, w4, w5⟩ := wantS_ok hw
      cases dst with
      | none => cases h
      | some d =>
        simp only at h
        cases hd : Nat.blt d n with
        | false => rw [hd] at h; cases h
        | true =>
          rw [hd, cond_true] at h
          have hd' : d < n := by simpa [Nat.blt_eq] using hd
          have hρ0 : Kind ρ st0.defs := by rw [w2]; exact hρ
          have ho0 : Holds st0.hp := (opsS_grows hc (st := st0.put d (.v undef)) h).holds ho
          intro ι rs ds gd R hD
          obtain ⟨R0, hg⟩ := w5 ho0 R
          have g0 : Good ι0 ι st0.hp := ⟨gd.ext, by rw [w4]; exact gd.fresh, by rw [w4]; exact gd.small⟩
          have hD0 : denD ι st0.defs = some ds := by rw [w2]; exact hD
          rcases hg with ⟨_, h2⟩ | ⟨j, want, t, bb, rfl, h2, h3, h4⟩
          · cases h2
          · refine J_off h2 h3 (by revert h4; cases bb <;> cases want <;> simp) hd' ?_
            have := opsS_ok hc hn (st := st0.put d (.v undef)) hρ0 h ho k ι _ ds g0 (R0.put (d := d) (v := undef) (Nat.lt_of_le_of_lt hd' hn) rfl) hD0
            rwa [show (st0.put d (.v undef)).hp.t = st.hp.t from w3] at this
    · cases h

end
end Go.Ws
