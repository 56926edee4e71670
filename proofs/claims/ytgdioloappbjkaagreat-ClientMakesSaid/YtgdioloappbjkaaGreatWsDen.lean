/- What values over named blocks stand for; a heap of them. -/
import Derived.Test.YtgdioloappbjkaaGreatWsRun
set_option linter.unusedSectionVars false
set_option linter.unusedVariables false
set_option linter.unusedSimpArgs false
namespace Go.Ws
variable [A : Arrs]

/-- A block's address, its capacity. -/
abbrev Env := Nat → Option (Nat × Nat)

def Ext (ι ι' : Env) : Prop := ∀ b p, ι b = some p → ι' b = some p
theorem Ext.refl (ι : Env) : Ext ι ι := fun _ _ h => h
theorem Ext.trans {a b c : Env} (x : Ext a b) (y : Ext b c) : Ext a c := fun _ _ h => y _ _ (x _ _ h)

def capD (c : Cp) (cap : Nat) : Nat := match c with
  | .known c => c
  | .left r => cap - r

mutual
def den (ι : Env) : SV → Option Value
  | .v x => some x
  | .ptr b o => match ι b with
    | some p => some (.pointer (some ⟨p.1, o, none⟩))
    | none => none
  | .sl b o n c => match ι b with
    | some p => some (.slice (some ⟨p.1, o, none⟩) n (capD c p.2))
    | none => none
  | .se b o o' r => match ι b with
    | some p => some (.slice (some ⟨p.1, if p.2 = r then o else o', none⟩) 0 (p.2 - r))
    | none => none
  | .agg l => match dens ι l with
    | some vs => some (.agg vs.toArray)
    | none => none
  | .tup l => match dens ι l with
    | some vs => some (.tuple vs.toArray)
    | none => none
  | .fn f a c => match dens ι a, dens ι c with
    | some x, some y => some (.func f x.toArray y.toArray)
    | _, _ => none
  | .ifc t x => match den ι x with
    | some v => some (.iface t v)
    | none => none
  | .mp b => match ι b with
    | some p => some (.map (some p.1))
    | none => none
  | .yld b => match ι b with
    | some p => some (.func (.yield p.1) #[] #[])
    | none => none
  | .si k n => some (.int k n)
  | .sb b => some (.bool b)
  | .osl a n c => some (.slice a n c)
  | .ss s => some (.string s)
  | .asl id => match A.get id with
    | some d => some (.slice (some ⟨d.block, d.off, none⟩) d.n d.cap)
    | none => none
  | .aptr id i j => match A.get id with
    | some d => if 0 ≤ i ∧ i < d.n then some (.pointer (some ⟨d.block, d.off + i.toNat * d.ks.length + j, none⟩)) else none
    | none => none
def dens (ι : Env) : List SV → Option (List Value)
  | [] => some []
  | x :: l => match den ι x, dens ι l with
    | some v, some m => some (v :: m)
    | _, _ => none
end

theorem dens_cons {ι : Env} {x : SV} {l : List SV} {vs : List Value} : dens ι (x :: l) = some vs ↔ ∃ v m, den ι x = some v ∧ dens ι l = some m ∧ vs = v :: m := by
  simp only [dens]
  cases den ι x <;> cases dens ι l <;> simp [eq_comm]

mutual
theorem den_mono {ι ι' : Env} (e : Ext ι ι') : ∀ {x : SV} {v : Value}, den ι x = some v → den ι' x = some v
  | .v x, v, h => by simpa [den] using h
  | .ptr b o, v, h => by
    simp only [den] at h ⊢
    cases hb : ι b with
    | none => simp [hb] at h
    | some p => rw [e _ _ hb]; simpa [hb] using h
  | .sl b o n c, v, h => by
    simp only [den] at h ⊢
    cases hb : ι b with
    | none => simp [hb] at h
    | some p => rw [e _ _ hb]; simpa [hb] using h
  | .se b o o' r, v, h => by
    simp only [den] at h ⊢
    cases hb : ι b with
    | none => simp [hb] at h
    | some p => rw [e _ _ hb]; simpa [hb] using h
  | .mp b, v, h => by
    simp only [den] at h ⊢
    cases hb : ι b with
    | none => simp [hb] at h
    | some p => rw [e _ _ hb]; simpa [hb] using h
  | .yld b, v, h => by
    simp only [den] at h ⊢
    cases hb : ι b with
    | none => simp [hb] at h
    | some p => rw [e _ _ hb]; simpa [hb] using h
  | .si _ _, v, h => by simpa [den] using h
  | .sb _, v, h => by simpa [den] using h
  | .osl _ _ _, v, h => by simpa [den] using h
  | .ss _, v, h => by simpa [den] using h
  | .asl _, v, h => by simpa only [den] using h
  | .aptr _ _ _, v, h => by simpa only [den] using h
  | .agg l, v, h => by
    simp only [den] at h ⊢
    cases hl : dens ι l with
    | none => simp [hl] at h
    | some vs => rw [dens_mono e hl]; simpa [hl] using h
  | .tup l, v, h => by
    simp only [den] at h ⊢
    cases hl : dens ι l with
    | none => simp [hl] at h
    | some vs => rw [dens_mono e hl]; simpa [hl] using h
  | .fn f a c, v, h => by
    simp only [den] at h ⊢
    cases ha : dens ι a with
    | none => simp [ha] at h
    | some x =>
      cases hc : dens ι c with
      | none => simp [ha, hc] at h
      | some y => rw [dens_mono e ha, dens_mono e hc]; simpa [ha, hc] using h
  | .ifc t x, v, h => by
    simp only [den] at h ⊢
    cases hx : den ι x with
    | none => simp [hx] at h
    | some u => rw [den_mono e hx]; simpa [hx] using h
theorem dens_mono {ι ι' : Env} (e : Ext ι ι') : ∀ {l : List SV} {vs : List Value}, dens ι l = some vs → dens ι' l = some vs
  | [], vs, h => by simpa [dens] using h
  | x :: l, vs, h => by
    obtain ⟨v, m, h1, h2, h3⟩ := dens_cons.1 h
    exact dens_cons.2 ⟨v, m, den_mono e h1, dens_mono e h2, h3⟩
end

variable {ι : Env}

theorem dens_len {l : List SV} {vs : List Value} (h : dens ι l = some vs) : vs.length = l.length := by
  induction l generalizing vs with
  | nil => simp [dens] at h; simp [← h]
  | cons x l ih => obtain ⟨v, m, _, h2, h3⟩ := dens_cons.1 h; subst h3; simp [ih h2]

theorem dens_append {l m : List SV} {vs us : List Value} (h : dens ι l = some vs) (g : dens ι m = some us) : dens ι (l ++ m) = some (vs ++ us) := by
  induction l generalizing vs with
  | nil => simp only [dens, Option.some.injEq] at h; subst h; simpa using g
  | cons x l ih =>
    obtain ⟨v, w, h1, h2, h3⟩ := dens_cons.1 h
    subst h3
    exact dens_cons.2 ⟨v, w ++ us, h1, ih h2, rfl⟩

theorem nthS_den : ∀ {l : List SV} {vs : List Value} {n : Nat} {x : SV}, dens ι l = some vs → nthS l n = some x → ∃ v, den ι x = some v ∧ vs[n]? = some v
  | [], _, n, x, _, h => by cases n <;> simp [nthS] at h
  | y :: l, vs, 0, x, hd, h => by
    obtain ⟨v, m, h1, h2, h3⟩ := dens_cons.1 hd
    simp [nthS] at h; subst h; subst h3
    exact ⟨v, h1, rfl⟩
  | y :: l, vs, n + 1, x, hd, h => by
    obtain ⟨v, m, h1, h2, h3⟩ := dens_cons.1 hd
    subst h3
    obtain ⟨u, h4, h5⟩ := nthS_den h2 (n := n) (by simpa [nthS] using h)
    exact ⟨u, h4, by simpa using h5⟩

theorem dropS_den : ∀ {n : Nat} {l : List SV} {vs : List Value}, dens ι l = some vs → dens ι (dropS n l) = some (vs.drop n)
  | 0, l, vs, h => by simpa [dropS] using h
  | n + 1, [], vs, h => by simp only [dens, Option.some.injEq] at h; subst h; rfl
  | n + 1, x :: l, vs, h => by
    obtain ⟨v, m, h1, h2, h3⟩ := dens_cons.1 h
    subst h3
    simpa [dropS] using dropS_den h2

theorem takeS_den : ∀ {n : Nat} {l m : List SV} {vs : List Value}, dens ι l = some vs → takeS n l = some m → dens ι m = some (vs.take n) ∧ n ≤ vs.length ∧ m.length = n
  | 0, l, m, vs, h, g => by simp [takeS] at g; subst g; simp [dens]
  | n + 1, [], m, vs, h, g => by simp [takeS] at g
  | n + 1, x :: l, m, vs, h, g => by
    obtain ⟨v, w, h1, h2, h3⟩ := dens_cons.1 h
    subst h3
    simp only [takeS] at g
    cases ht : takeS n l with
    | none => simp [ht] at g
    | some k =>
      simp only [ht, Option.some.injEq] at g
      subst g
      obtain ⟨a, b, c⟩ := takeS_den h2 ht
      exact ⟨dens_cons.2 ⟨v, _, h1, a, by simp⟩, by simpa using b, by simp [c]⟩

theorem spliceS_den : ∀ {l vs m : List SV} {o : Nat} {ls us : List Value}, dens ι l = some ls → dens ι vs = some us → spliceS l o vs = some m →
    dens ι m = some (ls.take o ++ us ++ ls.drop (o + us.length)) ∧ o + us.length ≤ ls.length
  | l, [], m, 0, ls, us, h, g, e => by
    simp [dens] at g; subst g
    have : l = m := by cases l <;> simpa [spliceS] using e
    subst this; simpa using h
  | [], y :: vs, m, 0, ls, us, h, g, e => by simp [spliceS] at e
  | x :: l, y :: vs, m, 0, ls, us, h, g, e => by
    obtain ⟨v, w, h1, h2, h3⟩ := dens_cons.1 h
    obtain ⟨v', w', g1, g2, g3⟩ := dens_cons.1 g
    subst h3 g3
    simp only [spliceS] at e
    cases ht : spliceS l 0 vs with
    | none => simp [ht] at e
    | some k =>
      simp only [ht, Option.some.injEq] at e
      subst e
      obtain ⟨a, b⟩ := spliceS_den h2 g2 ht
      refine ⟨dens_cons.2 ⟨v', _, g1, a, ?_⟩, by simp at b ⊢; omega⟩
      simp [Nat.add_comm]
  | [], vs, m, o + 1, ls, us, h, g, e => by cases vs <;> simp [spliceS] at e
  | x :: l, vs, m, o + 1, ls, us, h, g, e => by
    obtain ⟨v, w, h1, h2, h3⟩ := dens_cons.1 h
    subst h3
    simp only [spliceS] at e
    cases ht : spliceS l o vs with
    | none => simp [ht] at e
    | some k =>
      simp only [ht, Option.some.injEq] at e
      subst e
      obtain ⟨a, b⟩ := spliceS_den h2 g ht
      refine ⟨dens_cons.2 ⟨v, _, h1, a, ?_⟩, by simp; omega⟩
      rw [show o + 1 + us.length = (o + us.length) + 1 from by omega]; simp

theorem dens_v : ∀ (l : List Value), dens ι (l.map .v) = some l
  | [] => rfl
  | v :: l => dens_cons.2 ⟨v, l, by simp [den], dens_v l, rfl⟩

theorem den_norm (v : Value) : den ι (norm v) = some v := by
  cases v <;> simp [norm, den, dens_v]

theorem vals_den : ∀ {l : List SV} {vs : List Value}, vals l = some vs → dens ι l = some vs
  | [], vs, h => by simpa [vals, dens] using h
  | x :: l, vs, h => by
    cases x <;> simp [vals] at h
    all_goals (
      cases hl : vals l with
      | none => simp [hl] at h
      | some m =>
        simp [hl] at h
        exact dens_cons.2 ⟨_, m, by simp [den], vals_den hl, h.symm⟩)

theorem symR_den {r : Value} {x : SV} (h : symR r = some x) : den ι x = some r := by
  unfold symR at h
  split at h <;> simp at h <;> subst h <;> rfl

theorem normR_den {s : Bool} {r : Value} {x : SV} (h : normR s r = some x) : den ι x = some r := by
  unfold normR at h
  cases s with
  | true => exact symR_den h
  | false => simp at h; subst h; exact den_norm r

theorem plain_den {x : SV} {v : Value} (h : plain x = some v) : den ι x = some v := by
  cases x with
  | v y => simpa [plain, den] using h
  | si k n => simpa [plain, den] using h
  | sb b => simpa [plain, den] using h
  | ss s => simpa [plain, den] using h
  | agg l =>
    simp only [plain] at h
    cases hl : vals l with
    | none => simp [hl] at h
    | some m => simp [hl] at h; simp [den, vals_den hl, h]
  | ifc t y =>
    cases y <;> simp [plain] at h
    subst h; simp [den]
  | _ => simp [plain] at h

theorem cells_one {v : Value} (h : v.oneCell' = true) : v.cells = #[v] := by cases v <;> first | rfl | cases h

theorem oneS_den {x : SV} {v : Value} (h : oneS x = true) (d : den ι x = some v) : v.oneCell' = true := by
  cases x with
  | v y => simp [den] at d; subst d; simpa [oneS] using h
  | agg l => simp [oneS] at h
  | tup l => simp [oneS] at h
  | fn f a c =>
    simp only [den] at d
    split at d <;> simp at d
    subst d; rfl
  | ifc t y =>
    simp only [den] at d
    split at d <;> simp at d
    subst d; rfl
  | ptr b o =>
    simp only [den] at d
    split at d <;> simp at d
    subst d; rfl
  | sl b o n c =>
    simp only [den] at d
    split at d <;> simp at d
    subst d; rfl
  | se b o o' r =>
    simp only [den] at d
    split at d <;> simp at d
    subst d; rfl
  | mp b =>
    simp only [den] at d
    split at d <;> simp at d
    subst d; rfl
  | yld b =>
    simp only [den] at d
    split at d <;> simp at d
    subst d; rfl
  | si k n => simp [den] at d; subst d; rfl
  | sb b => simp [den] at d; subst d; rfl
  | osl a n c => simp [den] at d; subst d; rfl
  | ss s => simp [den] at d; subst d; rfl
  | asl id =>
    simp only [den] at d
    split at d <;> simp at d
    subst d; rfl
  | aptr id i j =>
    simp only [den] at d
    split at d
    · split at d
      · simp at d; subst d; rfl
      · cases d
    · cases d

theorem cellsS_den {x : SV} {v : Value} {l : List SV} (h : cellsS x = some l) (d : den ι x = some v) : ∃ vs, dens ι l = some vs ∧ v.cells = vs.toArray := by
  have key : ∀ x, oneS x = true → den ι x = some v → ∃ vs, dens ι [x] = some vs ∧ v.cells = vs.toArray := fun x ho hd =>
    ⟨[v], dens_cons.2 ⟨v, [], hd, rfl, rfl⟩, by rw [cells_one (oneS_den ho hd)]⟩
  cases x with
  | agg m =>
    simp only [cellsS, Option.some.injEq] at h; subst h
    simp only [den] at d
    cases hl : dens ι m with
    | none => simp [hl] at d
    | some vs => simp [hl] at d; subst d; exact ⟨vs, rfl, rfl⟩
  | _ =>
    simp only [cellsS] at h
    cases ho : oneS _ <;> rw [ho] at h <;> simp at h
    subst h
    exact key _ ho d

theorem allOne_den : ∀ {l : List SV} {vs : List Value}, allOne l = true → dens ι l = some vs → vs.all Value.oneCell' = true
  | [], vs, _, h => by simp [dens] at h; subst h; rfl
  | x :: l, vs, ho, h => by
    obtain ⟨v, m, h1, h2, h3⟩ := dens_cons.1 h
    subst h3
    simp only [allOne, Bool.and_eq_true] at ho
    simp only [List.all_cons, Bool.and_eq_true]
    exact ⟨oneS_den ho.1 h1, allOne_den ho.2 h2⟩

end Go.Ws
