/- Loops: states told by lists; what is no more needed is forgotten. -/
import Derived.Test.YtgdioloappbjkaaGreatWsLaw
set_option linter.unusedSectionVars false
set_option linter.unusedVariables false
set_option linter.unusedSimpArgs false
namespace Go.Ws
variable [A : Arrs]

def mkRg : List (Nat × SV) → Rg
  | [] => .leaf
  | (t, v) :: l => putS (mkRg l) t v

def mkT : List (Nat × Ch) → Tree
  | [] => .leaf
  | (b, c) :: l => (mkT l).set deep b c

def keysOK {α : Type} : List (Nat × α) → Bool
  | [] => true
  | (t, _) :: l => Nat.blt t 1000000000 && keysOK l

/-- A state, by lists. -/
structure LSt where
  regs : List (Nat × SV)
  blks : List (Nat × Ch)
  next : Nat

def LSt.st (s : LSt) (ask : List Bool) : St := ⟨mkRg s.regs, ⟨mkT s.blks, s.next, ask, []⟩, []⟩

mutual
/-- Are all the names below? -/
def namesS (n : Nat) : SV → Bool
  | .v _ => true
  | .ptr b _ => Nat.blt b n
  | .sl b _ _ _ => Nat.blt b n
  | .se b _ _ _ => Nat.blt b n
  | .agg l => namesSs n l
  | .tup l => namesSs n l
  | .fn _ a c => namesSs n a && namesSs n c
  | .ifc _ x => namesS n x
  | .mp b => Nat.blt b n
  | .yld b => Nat.blt b n
  | _ => true
def namesSs (n : Nat) : List SV → Bool
  | [] => true
  | x :: l => namesS n x && namesSs n l
end

def namesC (n : Nat) : Ch → Bool
  | .cells _ cs => namesSs n cs
  | .more _ _ cs => namesSs n cs
  | _ => false

def Env.below (ι : Env) (n : Nat) : Env := fun b => if b < n then ι b else none

theorem below_some {ι : Env} {n b : Nat} {p : Nat × Nat} (h : ι b = some p) (hb : Nat.blt b n = true) : ι.below n b = some p := by
  have : b < n := by simpa [Nat.blt_eq] using hb
  simp [Env.below, this, h]

mutual
theorem den_below {ι : Env} {n : Nat} : ∀ {x : SV} {v : Value}, namesS n x = true → den ι x = some v → den (ι.below n) x = some v
  | .v x, v, _, h => by simpa [den] using h
  | .ptr b o, v, hn, h => by
    simp only [den] at h ⊢
    cases hb : ι b with
    | none => simp [hb] at h
    | some p => rw [below_some hb (by simpa [namesS] using hn)]; simpa [hb] using h
  | .sl b o m c, v, hn, h => by
    simp only [den] at h ⊢
    cases hb : ι b with
    | none => simp [hb] at h
    | some p => rw [below_some hb (by simpa [namesS] using hn)]; simpa [hb] using h
  | .se b o o' r, v, hn, h => by
    simp only [den] at h ⊢
    cases hb : ι b with
    | none => simp [hb] at h
    | some p => rw [below_some hb (by simpa [namesS] using hn)]; simpa [hb] using h
  | .mp b, v, hn, h => by
    simp only [den] at h ⊢
    cases hb : ι b with
    | none => simp [hb] at h
    | some p => rw [below_some hb (by simpa [namesS] using hn)]; simpa [hb] using h
  | .yld b, v, hn, h => by
    simp only [den] at h ⊢
    cases hb : ι b with
    | none => simp [hb] at h
    | some p => rw [below_some hb (by simpa [namesS] using hn)]; simpa [hb] using h
  | .si _ _, v, _, h => by simpa [den] using h
  | .sb _, v, _, h => by simpa [den] using h
  | .osl _ _ _, v, _, h => by simpa [den] using h
  | .ss _, v, _, h => by simpa [den] using h
  | .asl _, v, _, h => by simpa only [den] using h
  | .aptr _ _ _, v, _, h => by simpa only [den] using h
  | .agg l, v, hn, h => by
    simp only [den] at h ⊢
    cases hl : dens ι l with
    | none => simp [hl] at h
    | some vs => rw [dens_below (by simpa only [namesS] using hn) hl]; simpa [hl] using h
  | .tup l, v, hn, h => by
    simp only [den] at h ⊢
    cases hl : dens ι l with
    | none => simp [hl] at h
    | some vs => rw [dens_below (by simpa only [namesS] using hn) hl]; simpa [hl] using h
  | .fn f a c, v, hn, h => by
    simp only [namesS, Bool.and_eq_true] at hn
    simp only [den] at h ⊢
    cases ha : dens ι a with
    | none => simp [ha] at h
    | some x =>
      cases hc : dens ι c with
      | none => simp [ha, hc] at h
      | some y => rw [dens_below hn.1 ha, dens_below hn.2 hc]; simpa [ha, hc] using h
  | .ifc t x, v, hn, h => by
    simp only [den] at h ⊢
    cases hx : den ι x with
    | none => simp [hx] at h
    | some u => rw [den_below (by simpa only [namesS] using hn) hx]; simpa [hx] using h
theorem dens_below {ι : Env} {n : Nat} : ∀ {l : List SV} {vs : List Value}, namesSs n l = true → dens ι l = some vs → dens (ι.below n) l = some vs
  | [], vs, _, h => by simpa [dens] using h
  | x :: l, vs, hn, h => by
    simp only [namesSs, Bool.and_eq_true] at hn
    obtain ⟨v, m, h1, h2, h3⟩ := dens_cons.1 h
    exact dens_cons.2 ⟨v, m, den_below hn.1 h1, dens_below hn.2 h2, h3⟩
end

theorem ObjIs.below {ι : Env} {n cap : Nat} {c : Ch} {o : Obj} (hn : namesC n c = true) (h : ObjIs ι cap c o) : ObjIs (ι.below n) cap c o := by
  cases c with
  | cells T cs => obtain ⟨vs, h1, h2⟩ := h; exact ⟨vs, dens_below (by simpa only [namesC] using hn) h1, h2⟩
  | more T sz cs => obtain ⟨vs, sp, h1, h2⟩ := h; exact ⟨vs, sp, dens_below (by simpa only [namesC] using hn) h1, h2⟩
  | _ => simp [namesC] at hn

theorem mkRg_mem : ∀ {l : List (Nat × SV)} {t : Nat} {sv : SV}, keysOK l = true → lookS (mkRg l) t = some sv → (t, sv) ∈ l
  | [], t, sv, _, h => by simp [mkRg, lookS, Tri.get_leaf] at h
  | (k, v) :: l, t, sv, hk, h => by
    simp only [keysOK, Bool.and_eq_true] at hk
    have hk1 : k < 1000000000 := by simpa [Nat.blt_eq] using hk.1
    unfold mkRg lookS putS at h
    rw [Tri.get_set _ _ _ _ _ (by show k + 1 < 1099511627776; omega)] at h
    by_cases e : t = k
    · rw [if_pos e] at h; cases h; rw [e]; simp
    · rw [if_neg e] at h
      exact List.mem_cons_of_mem _ (mkRg_mem hk.2 h)

theorem mkT_mem : ∀ {l : List (Nat × Ch)} {t : Nat} {c : Ch}, keysOK l = true → (mkT l).get t = some c → (t, c) ∈ l
  | [], t, sv, _, h => by simp [mkT, Tri.get_leaf] at h
  | (k, v) :: l, t, sv, hk, h => by
    simp only [keysOK, Bool.and_eq_true] at hk
    have hk1 : k < 1000000000 := by simpa [Nat.blt_eq] using hk.1
    unfold mkT at h
    rw [Tri.get_set _ _ _ _ _ (by show k + 1 < 1099511627776; omega)] at h
    by_cases e : t = k
    · rw [if_pos e] at h; cases h; rw [e]; simp
    · rw [if_neg e] at h
      exact List.mem_cons_of_mem _ (mkT_mem hk.2 h)

def LSt.ok (s : LSt) : Bool := keysOK s.regs && (keysOK s.blks && (s.blks.map (·.1)).all (Nat.blt · s.next)) && namesSs s.next (s.regs.map (·.2)) && (s.blks.map (·.2)).all (namesC s.next) && Nat.blt s.next 1000000000

theorem namesSs_mem {n : Nat} : ∀ {l : List SV}, namesSs n l = true → ∀ x ∈ l, namesS n x = true
  | [], _, x, hx => by cases hx
  | y :: l, h, x, hx => by
    simp only [namesSs, Bool.and_eq_true] at h
    rcases List.mem_cons.1 hx with rfl | hx
    · exact h.1
    · exact namesSs_mem h.2 x hx

section
variable {P : Program} {ρ : Option Nat} {n : Nat} {F : HP} {ι0 : Env} {Q : Exit → Act → World → Prop}

/-- The second stands for whatever the first stands for. -/
def SameDen (a b : SV) : Prop := ∀ (ι : Env) (v : Value), den ι a = some v → den ι b = some v
theorem SameDen.refl (a : SV) : SameDen a a := fun _ _ h => h
theorem SameDen.si {k : IntKind} {n m : Int} (h : n = m) : SameDen (.si k n) (.si k m) := fun _ _ e => h ▸ e
theorem SameDen.vi {k : IntKind} {n m : Int} (h : n = m) : SameDen (.v (.int k n)) (.si k m) := fun _ _ e => h ▸ e

/-- What is looked at of a state. -/
def viewL (ks bs : List Nat) : Option (Ex × St) → Option (Ex × List (Option SV) × List (Option Ch) × List (Bool × Bool) × Bool)
  | some (ex, st) => some (ex, ks.map (lookS st.regs), bs.map st.hp.t.get, st.hp.conds, st.defs.isEmpty)
  | none => none

theorem viewL_ok {ks bs : List Nat} {x : Option (Ex × St)} {ex : Ex} {rs : List (Option SV)} {cs : List (Option Ch)} {l : List (Bool × Bool)} (h : viewL ks bs x = some (ex, rs, cs, l, true)) :
    ∃ st, x = some (ex, st) ∧ ks.map (lookS st.regs) = rs ∧ bs.map st.hp.t.get = cs ∧ st.hp.conds = l ∧ st.defs = [] := by
  unfold viewL at h
  split at h
  rotate_left
  · cases h
  rename_i ex' st
  simp only [Option.some.injEq, Prod.mk.injEq] at h
  obtain ⟨rfl, h1, h2, h3, h4⟩ := h
  exact ⟨st, rfl, h1, h2, h3, by simpa using h4⟩

/-- What is no more needed is forgotten. -/
theorem JS_forget {st' : St} {s : LSt} {ask : List Bool} {G : Act → World → Prop} (hok : s.ok = true) (hregs : ∀ p ∈ s.regs, ∃ sv, lookS st'.regs p.1 = some sv ∧ SameDen sv p.2) (hblks : ∀ p ∈ s.blks, st'.hp.t.get p.1 = some p.2) (hd : st'.defs = [])
    (hι0 : ∀ b, s.next ≤ b → ι0 b = none) (k : JS n F ι0 (s.st ask) G) : JS n F ι0 st' G := by
  simp only [LSt.ok, Bool.and_eq_true] at hok
  obtain ⟨⟨⟨⟨k1, k2, k6⟩, k3⟩, k4⟩, k5⟩ := hok
  have k5' : s.next < 1000000000 := by simpa [Nat.blt_eq] using k5
  intro ι rs ds g R hD
  rw [hd] at hD
  have key := k (ι.below s.next) rs ds ⟨fun b p hb => ?_, fun b hb => ?_, ?_⟩ (fun t sv ht => ?_) hD
  · refine J_ent (fun h x => ?_) key
    refine stars_cons (fun h y => ?_) h x
    refine sep_mono (fun h z => ?_) (fun _ z => z) y
    obtain ⟨z1, z2, z3⟩ := z
    refine ⟨fun b c hb => ?_, fun b b' c c' p p' hb hb' hp hp' => ?_, z3⟩
    · have hm := mkT_mem k2 hb
      obtain ⟨p, o, e1, e2, e3⟩ := z1 b c (hblks _ hm)
      have hnc := List.all_eq_true.1 k4 c (List.mem_map.2 ⟨_, hm, rfl⟩)
      exact ⟨p, o, below_some e1 (List.all_eq_true.1 k6 b (List.mem_map.2 ⟨_, hm, rfl⟩)), e2.below hnc, e3⟩
    · have hm := mkT_mem k2 hb
      have hm' := mkT_mem k2 hb'
      have conv : ∀ x q, ι.below s.next x = some q → ι x = some q := fun x q hx => by
        unfold Env.below at hx
        split at hx
        · exact hx
        · cases hx
      exact z2 b b' c c' p p' (hblks _ hm) (hblks _ hm') (conv _ _ hp) (conv _ _ hp')
  · have hlt : b < s.next := by
      rcases Nat.lt_or_ge b s.next with h | h
      · exact h
      · rw [hι0 b h] at hb; cases hb
    simp [Env.below, hlt, g.ext _ _ hb]
  · have hb' : s.next ≤ b := hb
    simp [Env.below, Nat.not_lt.2 hb']
  · show s.next + 1 < 1099511627776
    omega
  · have hm := mkRg_mem k1 ht
    obtain ⟨sv', q1, q2⟩ := hregs _ hm
    obtain ⟨v, e1, e2⟩ := R t sv' q1
    exact ⟨v, den_below (namesSs_mem k3 sv (List.mem_map.2 ⟨_, hm, rfl⟩)) (q2 _ _ e1), e2⟩

theorem JS_ask {s : LSt} {a b : List Bool} {G : Act → World → Prop} (k : JS n F ι0 (s.st a) G) : JS n F ι0 (s.st b) G := fun ι rs ds g R hD => k ι rs ds ⟨g.ext, g.fresh, g.small⟩ R hD

/-- A loop of so many rounds. -/
theorem JS_loop {c : Code} (S : Nat → LSt) (N : Nat)
    (step : ∀ i, i < N → ∀ Q' : Exit → Act → World → Prop, JS n F ι0 ((S (i + 1)).st []) (Q' .normal) → (∀ e, e ≠ .normal → Q' e = Q e) → JS n F ι0 ((S i).st []) (c.wpIn (Fc ρ) 0 P Q'))
    (last : ∀ Q' : Exit → Act → World → Prop, (∀ e, e ≠ .normal → Q' e = Q e) → JS n F ι0 ((S N).st []) (c.wpIn (Fc ρ) 0 P Q')) :
    JS n F ι0 ((S 0).st []) ((Code.loop c).wpIn (Fc ρ) 0 P Q) := by
  have key : ∀ (m i : Nat), i + m = N → JS n F ι0 ((S i).st []) (Code.roundsIn (Fc ρ) 0 P c Q (m + 1)) := by
    intro m
    induction m with
    | zero =>
      intro i hi
      have : i = N := by omega
      subst this
      rw [show Code.roundsIn (Fc ρ) 0 P c Q (0 + 1) = c.wpIn (Fc ρ) 0 P (Exit.then (Code.roundsIn (Fc ρ) 0 P c Q 0) Q) from funext fun a => funext fun w => roundsIn_succ]
      exact last _ (fun e he => by cases e <;> first | rfl | exact absurd rfl he)
    | succ m ih =>
      intro i hi
      rw [show Code.roundsIn (Fc ρ) 0 P c Q (m + 1 + 1) = c.wpIn (Fc ρ) 0 P (Exit.then (Code.roundsIn (Fc ρ) 0 P c Q (m + 1)) Q) from funext fun a => funext fun w => roundsIn_succ]
      exact step i (by omega) _ (ih (i + 1) (by omega)) (fun e he => by cases e <;> first | rfl | exact absurd rfl he)
  intro ι rs ds g R hD a w r s
  exact wpIn_loop_rounds (N + 1) (key N 0 (by omega) ι rs ds g R hD a w r s)
end
end Go.Ws
