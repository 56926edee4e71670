/- The heap of named blocks, in a world. -/
import Derived.Test.YtgdioloappbjkaaGreatWsDen
set_option linter.unusedSectionVars false
set_option linter.unusedVariables false
set_option linter.unusedSimpArgs false
namespace Go.Ws
variable [A : Arrs]

theorem Tri.get_leaf {α : Type} (m : Nat) : (Tri.leaf : Tri α).get m = none := rfl
theorem Tri.get_zero {α : Type} {x : Option α} {l r : Tri α} : (Tri.node x l r).get 0 = x := rfl
theorem Tri.get_succ {α : Type} {x : Option α} {l r : Tri α} (n : Nat) : (Tri.node x l r).get (n + 1) = bif Nat.beq (n % 2) 0 then l.get (n / 2) else r.get (n / 2) := rfl

theorem Tri.get_set {α : Type} : ∀ (k : Nat) (t : Tri α) (n m : Nat) (c : α), n + 1 < 2 ^ k → (t.set k n c).get m = if m = n then some c else t.get m
  | 0, t, n, m, c, h => by simp at h
  | k + 1, t, n, m, c, h => by
    have e2 : 2 ^ (k + 1) = 2 * 2 ^ k := by rw [Nat.pow_succ, Nat.mul_comm]
    have key : ∀ n', n = n' + 1 → n' / 2 + 1 < 2 ^ k := fun n' e => by omega
    cases t with
    | leaf =>
      cases n with
      | zero =>
        cases m with
        | zero => simp [Tri.set, Tri.get_zero]
        | succ m => simp [Tri.set, Tri.get_succ, Tri.get_leaf]
      | succ n =>
        have hk := key n rfl
        have ih := fun m => Tri.get_set k (.leaf : Tri α) (n / 2) m c hk
        cases m with
        | zero =>
          simp only [Tri.set]
          cases hb : Nat.beq (n % 2) 0 <;> simp [Tri.get_zero, Tri.get_leaf]
        | succ m =>
          simp only [Tri.set]
          cases hb : Nat.beq (n % 2) 0 with
          | true =>
            have h0 := Nat.eq_of_beq_eq_true hb
            simp only [cond_true, Tri.get_succ, Tri.get_leaf, ih]
            cases hm : Nat.beq (m % 2) 0 with
            | true =>
              have h1 := Nat.eq_of_beq_eq_true hm
              simp only [cond_true]
              by_cases e : m / 2 = n / 2
              · rw [if_pos e, if_pos (by omega)]
              · rw [if_neg e, if_neg (by omega)]
            | false =>
              have h1 := Nat.ne_of_beq_eq_false hm
              simp only [cond_false]
              rw [if_neg (by omega)]
          | false =>
            have h0 := Nat.ne_of_beq_eq_false hb
            simp only [cond_false, Tri.get_succ, Tri.get_leaf, ih]
            cases hm : Nat.beq (m % 2) 0 with
            | true =>
              have h1 := Nat.eq_of_beq_eq_true hm
              simp only [cond_true]
              rw [if_neg (by omega)]
            | false =>
              have h1 := Nat.ne_of_beq_eq_false hm
              simp only [cond_false]
              by_cases e : m / 2 = n / 2
              · rw [if_pos e, if_pos (by omega)]
              · rw [if_neg e, if_neg (by omega)]
    | node x l r =>
      cases n with
      | zero =>
        cases m with
        | zero => simp [Tri.set, Tri.get_zero]
        | succ m => simp [Tri.set, Tri.get_succ]
      | succ n =>
        have hk := key n rfl
        have ihl := fun m => Tri.get_set k l (n / 2) m c hk
        have ihr := fun m => Tri.get_set k r (n / 2) m c hk
        cases m with
        | zero =>
          simp only [Tri.set]
          cases hb : Nat.beq (n % 2) 0 <;> simp [Tri.get_zero]
        | succ m =>
          simp only [Tri.set]
          cases hb : Nat.beq (n % 2) 0 with
          | true =>
            have h0 := Nat.eq_of_beq_eq_true hb
            simp only [cond_true, Tri.get_succ, ihl]
            cases hm : Nat.beq (m % 2) 0 with
            | true =>
              have h1 := Nat.eq_of_beq_eq_true hm
              simp only [cond_true]
              by_cases e : m / 2 = n / 2
              · rw [if_pos e, if_pos (by omega)]
              · rw [if_neg e, if_neg (by omega)]
            | false =>
              have h1 := Nat.ne_of_beq_eq_false hm
              simp only [cond_false]
              rw [if_neg (by omega)]
          | false =>
            have h0 := Nat.ne_of_beq_eq_false hb
            simp only [cond_false, Tri.get_succ, ihr]
            cases hm : Nat.beq (m % 2) 0 with
            | true =>
              have h1 := Nat.eq_of_beq_eq_true hm
              simp only [cond_true]
              rw [if_neg (by omega)]
            | false =>
              have h1 := Nat.ne_of_beq_eq_false hm
              simp only [cond_false]
              by_cases e : m / 2 = n / 2
              · rw [if_pos e, if_pos (by omega)]
              · rw [if_neg e, if_neg (by omega)]

/-! ### What blocks are -/

def denE (ι : Env) : List (SV × SV × Nat) → Option (List MapEntry)
  | [] => some []
  | (k, v, b) :: l => match den ι k, den ι v, denE ι l with
    | some x, some y, some m => some (⟨x, y, b⟩ :: m)
    | _, _, _ => none

theorem denE_cons {ι : Env} {k v : SV} {b : Nat} {l : List (SV × SV × Nat)} {ms : List MapEntry} :
    denE ι ((k, v, b) :: l) = some ms ↔ ∃ x y m, den ι k = some x ∧ den ι v = some y ∧ denE ι l = some m ∧ ms = ⟨x, y, b⟩ :: m := by
  simp only [denE]
  cases den ι k <;> cases den ι v <;> cases denE ι l <;> simp [eq_comm]

theorem denE_mono {ι ι' : Env} (e : Ext ι ι') : ∀ {l : List (SV × SV × Nat)} {ms : List MapEntry}, denE ι l = some ms → denE ι' l = some ms
  | [], ms, h => by simpa [denE] using h
  | (k, v, b) :: l, ms, h => by
    obtain ⟨x, y, m, h1, h2, h3, h4⟩ := denE_cons.1 h
    exact denE_cons.2 ⟨x, y, m, den_mono e h1, den_mono e h2, denE_mono e h3, h4⟩

def denB (ι : Env) : Option Nat → Option (Option Nat)
  | none => some none
  | some b => match ι b with
    | some p => some (some p.1)
    | none => none

theorem denB_mono {ι ι' : Env} (e : Ext ι ι') {m : Option Nat} {r : Option Nat} (h : denB ι m = some r) : denB ι' m = some r := by
  cases m with
  | none => simpa [denB] using h
  | some b =>
    simp only [denB] at h ⊢
    cases hb : ι b with
    | none => simp [hb] at h
    | some p => rw [e _ _ hb]; simpa [hb] using h

/-- How a loop stands. -/
def LS.state : LS → LoopState
  | .ready => .ready
  | .busy => .busy
  | .done _ => .done
  | .over _ => .exhausted
def LS.pend : LS → Option Code
  | .ready => none
  | .busy => none
  | .done j => some j
  | .over j => j

/-- A loop's record. -/
def LoopIs (ι : Env) (n : Nat) (rg : Tri SV) (ps : List Nat) (asg body : Code) (d : Nat) (s : LS) (r : Loop) : Prop :=
  r.tmps.size = n ∧ (∀ t sv, rg.get t = some sv → ∃ v, den ι sv = some v ∧ r.tmps[t]? = some v) ∧ (∃ p, ι d = some p ∧ r.defers = p.1) ∧
    r.params = ps.toArray ∧ r.assign = asg ∧ r.body = body ∧ r.state = s.state ∧ r.pending = s.pend ∧ calm asg = true ∧ calm body = true

theorem LoopIs.mono {ι ι' : Env} (e : Ext ι ι') {n : Nat} {rg : Tri SV} {ps : List Nat} {asg body : Code} {d : Nat} {s : LS} {r : Loop} (h : LoopIs ι n rg ps asg body d s r) : LoopIs ι' n rg ps asg body d s r :=
  let ⟨h1, h2, ⟨p, h3, h4⟩, h5⟩ := h
  ⟨h1, fun t sv ht => let ⟨v, a, b⟩ := h2 t sv ht; ⟨v, den_mono e a, b⟩, ⟨p, e _ _ h3, h4⟩, h5⟩

/-- What a block is, of that capacity. -/
def ObjIs (ι : Env) (cap : Nat) : Ch → Obj → Prop
  | .cells T cs, o => ∃ vs, dens ι cs = some vs ∧ o = .cells vs.toArray T (0, 0)
  | .more T sz cs, o => ∃ vs sp, dens ι cs = some vs ∧ o = .cells (vs ++ sp).toArray T (0, 0) ∧ vs.length + sp.length = cap * sz
  | .map es clock, o => ∃ ms, denE ι es = some ms ∧ o = .map ms.toArray clock
  | .iter m since seen last, o => ∃ r, denB ι m = some r ∧ o = .mapIter r since seen.toArray last
  | .dfr live, o => o = .deferred (bif live then some [] else none)
  | .loop _ n rg ps asg body d s, o => ∃ r, LoopIs ι n rg ps asg body d s r ∧ o = .loop r

theorem ObjIs.mono {ι ι' : Env} (e : Ext ι ι') {cap : Nat} {c : Ch} {o : Obj} (h : ObjIs ι cap c o) : ObjIs ι' cap c o := by
  cases c with
  | cells T cs => obtain ⟨vs, h1, h2⟩ := h; exact ⟨vs, dens_mono e h1, h2⟩
  | more T sz cs => obtain ⟨vs, sp, h1, h2⟩ := h; exact ⟨vs, sp, dens_mono e h1, h2⟩
  | map es clock => obtain ⟨ms, h1, h2⟩ := h; exact ⟨ms, denE_mono e h1, h2⟩
  | iter m since seen last => obtain ⟨r, h1, h2⟩ := h; exact ⟨r, denB_mono e h1, h2⟩
  | dfr live => exact h
  | loop fid n rg ps asg body d s => obtain ⟨r, h1, h2⟩ := h; exact ⟨r, h1.mono e, h2⟩

/-- The heap of named blocks. -/
def rep (ι : Env) (t : Tree) : HP := fun h =>
  (∀ b c, t.get b = some c → ∃ p o, ι b = some p ∧ ObjIs ι p.2 c o ∧ h p.1 = some (true, o)) ∧
  (∀ b b' c c' p p', t.get b = some c → t.get b' = some c' → ι b = some p → ι b' = some p' → p.1 = p'.1 → b = b') ∧
  ∀ id d, A.get id = some d → h d.block = some (false, d.obj)

variable {ι : Env} {t : Tree} {w w' : World} {F : HP}

theorem rep_arr (s : Sat w (stars [rep ι t])) {id : Nat} {d : ArrD} (h : A.get id = some d) : w.heap[d.block]? = some d.obj := by
  obtain ⟨hh, ⟨h1, h2, cc, ⟨_, _, x⟩, _⟩, _, g⟩ := s
  exact g _ _ _ (cc.left.at_ _ _ (x id d h))

theorem rep_frame (s : Sat w (stars [F, rep ι t])) : Sat w (stars [rep ι t]) := s.ent .drop

theorem rep_get (s : Sat w (stars [rep ι t])) {b : Nat} {c : Ch} (hb : t.get b = some c) : ∃ p o, ι b = some p ∧ ObjIs ι p.2 c o ∧ w.heap[p.1]? = some o := by
  obtain ⟨h, ⟨h1, h2, cc, ⟨x, _, _⟩, _⟩, _, g⟩ := s
  obtain ⟨p, o, e1, e2, e3⟩ := x b c hb
  exact ⟨p, o, e1, e2, g _ _ _ (cc.left.at_ _ _ e3)⟩

/-- A block that is turned. -/
theorem rep_set (s : Sat w (stars [F, rep ι t])) {b : Nat} {c c' : Ch} {p : Nat × Nat} {o' : Obj} (hb : t.get b = some c) (hp : ι b = some p) (hs : b + 1 < 2 ^ deep)
    (ho : ObjIs ι p.2 c' o') (hw : SetAt w w' p.1 o') : Sat w' (stars [F, rep ι (t.set deep b c')]) := by
  obtain ⟨h, ⟨h1, h2, cc, xF, h3, h4, cd, ⟨xr, xi, xa⟩, xe⟩, rr, g⟩ := s
  have e3 : h2 = h3 := Hl.eq cd.r1.symm fun x => by
    have := xe x
    rcases cd.at_ x with ⟨a, e⟩ | ⟨a, e⟩ | ⟨o, a, e, _⟩ <;> simp_all
  subst e3
  obtain ⟨p0, o, hp0, _, ho0⟩ := xr b c hb
  rw [hp] at hp0; cases hp0
  have hF : h1 p.1 = none := by
    rcases cc.at_ p.1 with ⟨a, _⟩ | ⟨a, _⟩ | ⟨o, _, a, _⟩
    · exact a
    · rw [ho0] at a; cases a
    · rw [ho0] at a; cases a
  refine ⟨⟨h.rest, fun x => if x = p.1 then some (true, o') else h x⟩, ⟨h1, ⟨h.rest, fun x => if x = p.1 then some (true, o') else h2 x⟩, ⟨cc.r1, rfl, fun x => ?_⟩, xF, _, ⟨h.rest, fun _ => none⟩, ⟨rfl, rfl, fun x => .inr (.inl ⟨rfl, rfl⟩)⟩, ⟨?_, ?_, ?_⟩, fun _ => rfl⟩, rr.trans hw.rest.symm, ?_⟩
  · by_cases e : x = p.1
    · subst e; exact .inl ⟨hF, by simp⟩
    · simpa [e] using cc.at_ x
  · intro b' ch hb'
    rw [Tri.get_set _ _ _ _ _ hs] at hb'
    by_cases e : b' = b
    · subst e
      rw [if_pos rfl] at hb'
      cases hb'
      exact ⟨p, o', hp, ho, by simp⟩
    · rw [if_neg e] at hb'
      obtain ⟨q, o2, g1, g2, g3⟩ := xr b' ch hb'
      refine ⟨q, o2, g1, g2, ?_⟩
      have : q.1 ≠ p.1 := fun hh => e (xi b' b ch c q p hb' hb g1 hp hh)
      simpa [this] using g3
  · intro x y cx cy px py hx hy
    have conv : ∀ z cz, (t.set deep b c').get z = some cz → ∃ c2, t.get z = some c2 := fun z cz hz => by
      rw [Tri.get_set _ _ _ _ _ hs] at hz
      by_cases e : z = b
      · exact ⟨c, e ▸ hb⟩
      · rw [if_neg e] at hz; exact ⟨cz, hz⟩
    obtain ⟨c1, k1⟩ := conv x cx hx
    obtain ⟨c2, k2⟩ := conv y cy hy
    exact xi x y c1 c2 px py k1 k2
  · intro id d hd
    have := xa id d hd
    have hne : d.block ≠ p.1 := fun e => by rw [e, ho0] at this; simp at this
    simpa [hne] using this
  · intro x f o2 hx
    rw [hw.at_]
    by_cases e : x = p.1
    · simp only [e, if_true, Option.some.injEq, Prod.mk.injEq] at hx ⊢
      exact hx.2
    · simp only [e, if_false] at hx ⊢; exact g _ _ _ hx

def Env.add (ι : Env) (b : Nat) (p : Nat × Nat) : Env := fun x => if x = b then some p else ι x
theorem Env.add_self (ι : Env) (b : Nat) (p : Nat × Nat) : ι.add b p b = some p := by simp [Env.add]
theorem Env.add_ext {b : Nat} {p : Nat × Nat} (h : ι b = none) : Ext ι (ι.add b p) := fun x q hx => by
  have : x ≠ b := fun e => by subst e; rw [h] at hx; cases hx
  simp [Env.add, this, hx]

/-- A new block. -/
theorem rep_new (s : Sat w (stars [F, rep ι t])) {b cap : Nat} {c : Ch} {o : Obj} (hb : ι b = none) (hs : b + 1 < 2 ^ deep)
    (ho : ObjIs (ι.add b (w.heap.size, cap)) cap c o) (hw : NewAt w w' o) : Sat w' (stars [F, rep (ι.add b (w.heap.size, cap)) (t.set deep b c)]) := by
  obtain ⟨h, ⟨h1, h2, cc, xF, h3, h4, cd, ⟨xr, xi, xa⟩, xe⟩, rr, g⟩ := s
  have e3 : h2 = h3 := Hl.eq cd.r1.symm fun x => by
    have := xe x
    rcases cd.at_ x with ⟨a, e⟩ | ⟨a, e⟩ | ⟨o, a, e, _⟩ <;> simp_all
  subst e3
  have hn : h w.heap.size = none := by
    cases e : h w.heap.size with
    | none => rfl
    | some y => have := g _ y.1 y.2 e; simp at this
  have hF : h1 w.heap.size = none := by
    cases e : h1 w.heap.size with
    | none => rfl
    | some y => have := cc.left.at_ _ _ e; rw [hn] at this; cases this
  have h2n : h2 w.heap.size = none := by
    cases e : h2 w.heap.size with
    | none => rfl
    | some y => have := cc.right.at_ _ _ e; rw [hn] at this; cases this
  have ext : Ext ι (ι.add b (w.heap.size, cap)) := Env.add_ext hb
  have old : ∀ b' ch, t.get b' = some ch → b' ≠ b ∧ ∃ q o2, ι b' = some q ∧ ObjIs ι q.2 ch o2 ∧ h2 q.1 = some (true, o2) ∧ q.1 ≠ w.heap.size := fun b' ch hb' => by
    obtain ⟨q, o2, g1, g2, g3⟩ := xr b' ch hb'
    refine ⟨fun e => (by subst e; rw [hb] at g1; cases g1), q, o2, g1, g2, g3, fun e => (by rw [e, h2n] at g3; cases g3)⟩
  refine ⟨⟨h.rest, fun x => if x = w.heap.size then some (true, o) else h x⟩, ⟨h1, ⟨h.rest, fun x => if x = w.heap.size then some (true, o) else h2 x⟩, ⟨cc.r1, rfl, fun x => ?_⟩, xF, _, ⟨h.rest, fun _ => none⟩, ⟨rfl, rfl, fun x => .inr (.inl ⟨rfl, rfl⟩)⟩, ⟨?_, ?_, ?_⟩, fun _ => rfl⟩, rr.trans hw.rest.symm, ?_⟩
  · by_cases e : x = w.heap.size
    · subst e; exact .inl ⟨hF, by simp⟩
    · simpa [e] using cc.at_ x
  · intro b' ch hb'
    rw [Tri.get_set _ _ _ _ _ hs] at hb'
    by_cases e : b' = b
    · subst e
      rw [if_pos rfl] at hb'
      cases hb'
      exact ⟨_, o, Env.add_self _ _ _, ho, by simp⟩
    · rw [if_neg e] at hb'
      obtain ⟨_, q, o2, g1, g2, g3, g4⟩ := old b' ch hb'
      exact ⟨q, o2, ext _ _ g1, g2.mono ext, by simpa [g4] using g3⟩
  · intro x y cx cy px py hx hy h1x h1y exy
    have conv : ∀ z cz pz, (t.set deep b c).get z = some cz → ι.add b (w.heap.size, cap) z = some pz → (z = b ∧ pz.1 = w.heap.size) ∨ (t.get z = some cz ∧ ι z = some pz ∧ pz.1 ≠ w.heap.size) := fun z cz pz hz hp => by
      rw [Tri.get_set _ _ _ _ _ hs] at hz
      by_cases e : z = b
      · subst e
        rw [Env.add_self] at hp; cases hp
        exact .inl ⟨rfl, rfl⟩
      · rw [if_neg e] at hz
        obtain ⟨_, q, o2, g1, _, _, g4⟩ := old z cz hz
        have := ext _ _ g1
        rw [this] at hp; cases hp
        exact .inr ⟨hz, g1, g4⟩
    rcases conv x cx px hx h1x with ⟨a1, a2⟩ | ⟨a1, a2, a3⟩ <;> rcases conv y cy py hy h1y with ⟨b1, b2⟩ | ⟨b1, b2, b3⟩
    · rw [a1, b1]
    · rw [exy] at a2; exact absurd a2 b3
    · rw [← exy] at b2; exact absurd b2 a3
    · exact xi x y cx cy px py a1 b1 a2 b2 exy
  · intro id d hd
    have := xa id d hd
    have hne : d.block ≠ w.heap.size := fun e => by rw [e, h2n] at this; cases this
    simpa [hne] using this
  · intro x f o2 hx
    rw [hw.heap]
    by_cases e : x = w.heap.size
    · simp only [e, if_true, Option.some.injEq, Prod.mk.injEq] at hx
      simp [e, hx.2]
    · simp only [e, if_false] at hx
      have := g _ _ _ hx
      rw [Array.getElem?_push, if_neg e]; exact this

end Go.Ws
