/- Small separation logic over the model's heap: what is owned, what is only read, what is left alone. -/
import Derived.Tactics
set_option linter.unusedSectionVars false
set_option linter.unusedVariables false
set_option linter.unusedSimpArgs false
namespace Go.Ws

/-- What a world is beside its heap and its draws. -/
structure Rest where
  os : Os
  tape : Nat → Question → Nat
  output : Array (Nat × ByteArray)

def restOf (w : World) : Rest := ⟨w.os, w.tape, w.output⟩

/-- A part of a heap: each block owned (true) or only read (false); what stands beside it. -/
structure Hl where
  rest : Rest
  blk : Nat → Option (Bool × Obj)

instance : CoeFun Hl (fun _ => Nat → Option (Bool × Obj)) := ⟨Hl.blk⟩

/-- Two parts make a third one: apart, but for what both only read. -/
structure Comp (h1 h2 h : Hl) : Prop where
  r1 : h1.rest = h.rest
  r2 : h2.rest = h.rest
  at_ : ∀ b, (h1 b = none ∧ h b = h2 b) ∨ (h2 b = none ∧ h b = h1 b) ∨ (∃ o, h1 b = some (false, o) ∧ h2 b = some (false, o) ∧ h b = some (false, o))

instance {h1 h2 h : Hl} : CoeFun (Comp h1 h2 h) (fun _ => ∀ b, (h1 b = none ∧ h b = h2 b) ∨ (h2 b = none ∧ h b = h1 b) ∨ (∃ o, h1 b = some (false, o) ∧ h2 b = some (false, o) ∧ h b = some (false, o))) := ⟨Comp.at_⟩

/-- The same heap, the same beside it. -/
structure SameH (w w' : World) : Prop where
  heap : w'.heap = w.heap
  rest : restOf w' = restOf w

/-- One block is turned. -/
structure SetAt (w w' : World) (b : Nat) (o : Obj) : Prop where
  at_ : ∀ x, w'.heap[x]? = if x = b then some o else w.heap[x]?
  rest : restOf w' = restOf w

/-- One block is new. -/
structure NewAt (w w' : World) (o : Obj) : Prop where
  heap : w'.heap = w.heap.push o
  rest : restOf w' = restOf w

theorem NewAt.alloc {w : World} {o : Obj} : NewAt w (w.alloc o) o := ⟨rfl, rfl⟩
theorem SameH.drew {w : World} : SameH w w.drew := ⟨rfl, rfl⟩

def HP := Hl → Prop
def sep (p q : HP) : HP := fun h => ∃ h1 h2, Comp h1 h2 h ∧ p h1 ∧ q h2
def emp : HP := fun h => ∀ b, h b = none
def lift (φ : Prop) : HP := fun _ => φ
def ex {α : Sort _} (p : α → HP) : HP := fun h => ∃ x, p x h
def own (b : Nat) (o : Obj) : HP := fun h => h b = some (true, o)
def ro (b : Nat) (o : Obj) : HP := fun h => h b = some (false, o)

def stars : List HP → HP
  | [] => emp
  | p :: l => sep p (stars l)

/-- A world bears an assertion on a part of its heap. -/
def Sat (w : World) (p : HP) : Prop := ∃ h : Hl, p h ∧ h.rest = restOf w ∧ ∀ b f o, h b = some (f, o) → w.heap[b]? = some o

structure sub (h h' : Hl) : Prop where
  rest : h.rest = h'.rest
  at_ : ∀ b x, h b = some x → h' b = some x

instance {h h' : Hl} : CoeFun (sub h h') (fun _ => ∀ b x, h b = some x → h' b = some x) := ⟨sub.at_⟩

/-- Entailment that may forget. -/
def Ent (p q : HP) : Prop := ∀ h, p h → ∃ h', q h' ∧ sub h' h

theorem Comp.symm {h1 h2 h : Hl} (c : Comp h1 h2 h) : Comp h2 h1 h := ⟨c.r2, c.r1, fun b => by
  rcases c.at_ b with ⟨a, e⟩ | ⟨a, e⟩ | ⟨o, a, e, g⟩
  · exact .inr (.inl ⟨a, e⟩)
  · exact .inl ⟨a, e⟩
  · exact .inr (.inr ⟨o, e, a, g⟩)⟩

theorem Comp.left {h1 h2 h : Hl} (c : Comp h1 h2 h) : sub h1 h := ⟨c.r1, fun b x hx => by
  rcases c.at_ b with ⟨a, e⟩ | ⟨a, e⟩ | ⟨o, a, e, g⟩ <;> simp_all⟩

theorem Comp.right {h1 h2 h : Hl} (c : Comp h1 h2 h) : sub h2 h := c.symm.left

/-- The least part that holds two. -/
def join (h1 h2 : Hl) : Hl := ⟨h1.rest, fun b => match h1 b with | some x => some x | none => h2 b⟩

theorem Comp.assoc {h1 h2 h3 h23 h : Hl} (c : Comp h1 h23 h) (d : Comp h2 h3 h23) : Comp h1 h2 (join h1 h2) ∧ Comp (join h1 h2) h3 h := by
  constructor
  · refine ⟨rfl, d.r1.trans (c.r2.trans c.r1.symm), fun b => ?_⟩
    unfold join
    rcases c.at_ b with ⟨a, e⟩ | ⟨a, e⟩ | ⟨o, a, e, g⟩ <;> rcases d.at_ b with ⟨a', e'⟩ | ⟨a', e'⟩ | ⟨o', a', e', g'⟩ <;> simp_all
    all_goals (cases h : h1.blk b <;> simp_all)
  · refine ⟨c.r1, d.r2.trans c.r2, fun b => ?_⟩
    unfold join
    rcases c.at_ b with ⟨a, e⟩ | ⟨a, e⟩ | ⟨o, a, e, g⟩ <;> rcases d.at_ b with ⟨a', e'⟩ | ⟨a', e'⟩ | ⟨o', a', e', g'⟩ <;> simp_all
    all_goals (cases h : h1.blk b <;> simp_all)

theorem sep_comm {p q : HP} {h : Hl} (s : sep p q h) : sep q p h := let ⟨a, b, c, u, v⟩ := s; ⟨b, a, c.symm, v, u⟩

theorem sep_assoc {p q r : HP} {h : Hl} (s : sep p (sep q r) h) : sep (sep p q) r h :=
  let ⟨h1, _, c, x, h2, h3, d, y, z⟩ := s
  ⟨join h1 h2, h3, (c.assoc d).2, ⟨h1, h2, (c.assoc d).1, x, y⟩, z⟩

theorem sep_assoc' {p q r : HP} {h : Hl} (s : sep (sep p q) r h) : sep p (sep q r) h :=
  sep_comm (sep_assoc (sep_comm (sep_assoc (sep_comm s))))

theorem sep_left {p q r : HP} {h : Hl} (s : sep p (sep q r) h) : sep q (sep p r) h :=
  let ⟨a, b, c, x, y⟩ := sep_assoc s
  sep_assoc' ⟨a, b, c, sep_comm x, y⟩

theorem sep_mono {p p' q q' : HP} (hp : ∀ h, p h → p' h) (hq : ∀ h, q h → q' h) {h : Hl} (s : sep p q h) : sep p' q' h :=
  let ⟨a, b, c, x, y⟩ := s; ⟨a, b, c, hp _ x, hq _ y⟩

theorem sub.trans {a b c : Hl} (h : sub a b) (g : sub b c) : sub a c := ⟨h.rest.trans g.rest, fun _ _ e => g.at_ _ _ (h.at_ _ _ e)⟩
theorem sub.refl (a : Hl) : sub a a := ⟨rfl, fun _ _ h => h⟩

theorem Ent.refl (p : HP) : Ent p p := fun h hp => ⟨h, hp, sub.refl h⟩
theorem Ent.of {p q : HP} (f : ∀ h, p h → q h) : Ent p q := fun h hp => ⟨h, f h hp, sub.refl h⟩
theorem Ent.trans {p q r : HP} (a : Ent p q) (b : Ent q r) : Ent p r := fun h hp =>
  let ⟨h', x, s⟩ := a h hp; let ⟨h'', y, s'⟩ := b h' x; ⟨h'', y, s'.trans s⟩

theorem Comp.shrink {h1 h2 h h1' : Hl} (c : Comp h1 h2 h) (s : sub h1' h1) : ∃ h', Comp h1' h2 h' ∧ sub h' h := by
  refine ⟨join h1' h2, ⟨rfl, c.r2.trans (c.r1.symm.trans s.rest.symm), fun b => ?_⟩, ⟨s.rest.trans c.r1, fun b x hx => ?_⟩⟩
  · unfold join
    cases e : h1'.blk b with
    | none => simp [e]
    | some y =>
      have := s.at_ b y e
      rcases c.at_ b with ⟨a, e'⟩ | ⟨a, e'⟩ | ⟨o, a, e', g⟩ <;> simp_all
      exact ⟨o, this.symm⟩
  · unfold join at hx
    cases e : h1'.blk b with
    | none => simp only [e] at hx; exact c.right.at_ _ _ hx
    | some y => simp only [e] at hx; cases hx; exact c.left.at_ _ _ (s.at_ _ _ e)

theorem Ent.sep_left {p q r : HP} (a : Ent p q) : Ent (sep p r) (sep q r) := fun _ s =>
  let ⟨h1, h2, c, x, y⟩ := s
  let ⟨h1', x', s1⟩ := a h1 x
  let ⟨h', c', s'⟩ := c.shrink s1
  ⟨h', ⟨h1', h2, c', x', y⟩, s'⟩

theorem Ent.sep_right {p q r : HP} (a : Ent p q) : Ent (sep r p) (sep r q) := fun _ s =>
  let ⟨h', x, y⟩ := a.sep_left _ (sep_comm s); ⟨h', sep_comm x, y⟩

theorem Ent.drop {p q : HP} : Ent (sep p q) q := fun _ s => let ⟨_, h2, c, _, y⟩ := s; ⟨h2, y, c.right⟩
theorem Ent.dropr {p q : HP} : Ent (sep p q) p := fun _ s => let ⟨h1, _, c, x, _⟩ := s; ⟨h1, x, c.left⟩

theorem Sat.ent {w : World} {p q : HP} (s : Sat w p) (e : Ent p q) : Sat w q :=
  let ⟨h, x, r, y⟩ := s; let ⟨h', x', t⟩ := e h x; ⟨h', x', t.rest.trans r, fun b f o hb => y b f o (t.at_ _ _ hb)⟩

theorem Sat.imp {w : World} {p q : HP} (s : Sat w p) (e : ∀ h, p h → q h) : Sat w q := s.ent (.of e)

theorem Sat.heap {w w' : World} {p : HP} (s : Sat w p) (e : SameH w w') : Sat w' p :=
  let ⟨h, x, r, y⟩ := s; ⟨h, x, r.trans e.rest.symm, fun b f o hb => by rw [e.heap]; exact y b f o hb⟩

theorem sep_emp {p : HP} {h : Hl} (x : p h) : sep p emp h := ⟨h, ⟨h.rest, fun _ => none⟩, ⟨rfl, rfl, fun _ => .inr (.inl ⟨rfl, rfl⟩)⟩, x, fun _ => rfl⟩

theorem Hl.eq {h h' : Hl} (r : h.rest = h'.rest) (e : ∀ b, h b = h' b) : h = h' := by
  cases h; cases h'; simp only at r e; subst r; congr; exact funext e

theorem of_emp_sep {p : HP} {h : Hl} (s : sep emp p h) : p h := by
  obtain ⟨h1, h2, c, x, y⟩ := s
  have : h = h2 := Hl.eq c.r2.symm fun b => by rcases c.at_ b with ⟨_, e⟩ | ⟨e, g⟩ | ⟨o, e, _, _⟩ <;> simp_all [x b]
  exact this ▸ y
theorem emp_sep {p : HP} {h : Hl} (x : p h) : sep emp p h := sep_comm (sep_emp x)

theorem stars_one {p : HP} {h : Hl} (x : p h) : stars [p] h := sep_emp x
theorem ent_stars_one {p : HP} : Ent (stars [p]) p := .dropr

theorem stars_append {l m : List HP} {h : Hl} : stars (l ++ m) h → sep (stars l) (stars m) h := by
  induction l generalizing h with
  | nil => exact fun x => emp_sep x
  | cons p l ih => exact fun x => sep_assoc (sep_mono (fun _ x => x) (fun _ y => ih y) x)

theorem stars_append' {l m : List HP} {h : Hl} : sep (stars l) (stars m) h → stars (l ++ m) h := by
  induction l generalizing h with
  | nil => exact fun x => of_emp_sep x
  | cons p l ih => exact fun x => sep_mono (fun _ x => x) (fun _ y => ih y) (sep_assoc' x)

/-! ### Worlds that change -/

theorem own_at {w : World} {b : Nat} {o : Obj} {q : HP} (s : Sat w (sep (own b o) q)) : w.heap[b]? = some o :=
  let ⟨_, ⟨_, _, c, x, _⟩, _, g⟩ := s; g b true o (c.left.at_ _ _ x)

theorem ro_at {w : World} {b : Nat} {o : Obj} {q : HP} (s : Sat w (sep (ro b o) q)) : w.heap[b]? = some o :=
  let ⟨_, ⟨_, _, c, x, _⟩, _, g⟩ := s; g b false o (c.left.at_ _ _ x)

theorem own_set {w w' : World} {b : Nat} {o o' : Obj} {q : HP} (s : Sat w (sep (own b o) q)) (hw : SetAt w w' b o') : Sat w' (sep (own b o') q) := by
  obtain ⟨h, ⟨h1, h2, c, x, y⟩, r, g⟩ := s
  have hb : h2 b = none := by
    rcases c.at_ b with ⟨a, e⟩ | ⟨a, e⟩ | ⟨o, a, e, g⟩
    · simp [own] at x; simp [x] at a
    · exact a
    · simp [own] at x; simp [x] at a
  refine ⟨⟨h.rest, fun t => if t = b then some (true, o') else h t⟩, ⟨⟨h.rest, fun t => if t = b then some (true, o') else h1 t⟩, h2, ⟨rfl, c.r2, fun t => ?_⟩, by simp [own], y⟩, r.trans hw.rest.symm, fun t f o'' ht => ?_⟩
  · by_cases e : t = b
    · subst e; exact .inr (.inl ⟨hb, by simp⟩)
    · simpa [e] using c.at_ t
  · rw [hw.at_]
    by_cases e : t = b
    · simp [e] at ht ⊢; exact ht.2
    · simp [e] at ht ⊢; exact g _ _ _ ht

theorem new_at {w w' : World} {o : Obj} {q : HP} (s : Sat w q) (hw : NewAt w w' o) : Sat w' (sep (own w.heap.size o) q) := by
  obtain ⟨h, x, r, g⟩ := s
  have hn : h w.heap.size = none := by
    cases e : h w.heap.size with
    | none => rfl
    | some y => have := g _ y.1 y.2 e; simp at this
  refine ⟨⟨h.rest, fun t => if t = w.heap.size then some (true, o) else h t⟩, ⟨⟨h.rest, fun t => if t = w.heap.size then some (true, o) else none⟩, h, ⟨rfl, rfl, fun t => ?_⟩, by simp [own], x⟩, r.trans hw.rest.symm, fun t f o' ht => ?_⟩
  · by_cases e : t = w.heap.size
    · subst e; exact .inr (.inl ⟨hn, by simp⟩)
    · exact .inl ⟨by simp [e], by simp [e]⟩
  · rw [hw.heap]
    by_cases e : t = w.heap.size
    · simp [e] at ht ⊢; exact ht.2
    · simp only [e, if_false] at ht
      have := g _ _ _ ht
      have hlt : t < w.heap.size := by
        rcases Nat.lt_or_ge t w.heap.size with h | h
        · exact h
        · simp [Array.getElem?_eq_none h] at this
      rw [Array.getElem?_push, if_neg e]; exact this

/-- What is owned may be let go to be read alone. -/
theorem own_ro {w : World} {b : Nat} {o : Obj} {q : HP} (s : Sat w (sep (own b o) q)) : Sat w (sep (ro b o) q) := by
  obtain ⟨h, ⟨h1, h2, c, x, y⟩, r, g⟩ := s
  have hb : h2 b = none := by
    rcases c.at_ b with ⟨a, e⟩ | ⟨a, e⟩ | ⟨o, a, e, g⟩
    · simp [own] at x; simp [x] at a
    · exact a
    · simp [own] at x; simp [x] at a
  refine ⟨⟨h.rest, fun t => if t = b then some (false, o) else h t⟩, ⟨⟨h.rest, fun t => if t = b then some (false, o) else h1 t⟩, h2, ⟨rfl, c.r2, fun t => ?_⟩, by simp [ro], y⟩, r, fun t f o'' ht => ?_⟩
  · by_cases e : t = b
    · subst e; exact .inr (.inl ⟨hb, by simp⟩)
    · simpa [e] using c.at_ t
  · by_cases e : t = b
    · simp [e] at ht ⊢
      rw [← ht.2]
      exact g b true o (c.left.at_ _ _ x)
    · simp [e] at ht; exact g _ _ _ ht

/-- What is only read may be had twice. -/
theorem ro_dup {b : Nat} {o : Obj} {q : HP} {h : Hl} (s : sep (ro b o) q h) : sep (ro b o) (sep (ro b o) q) h := by
  obtain ⟨h1, h2, c, x, y⟩ := s
  refine ⟨⟨h.rest, fun t => if t = b then some (false, o) else none⟩, h, ⟨rfl, rfl, fun t => ?_⟩, by simp [ro], h1, h2, c, x, y⟩
  by_cases e : t = b
  · subst e
    exact .inr (.inr ⟨o, by simp, c.left.at_ _ _ x, c.left.at_ _ _ x⟩)
  · exact .inl ⟨by simp [e], rfl⟩

theorem own_ne {w : World} {b c : Nat} {o o' : Obj} {q : HP} (s : Sat w (sep (own b o) (sep (own c o') q))) : b ≠ c := by
  intro e
  subst e
  obtain ⟨h, ⟨h1, h2, c, x, h3, h4, d, y, z⟩, _, g⟩ := s
  have := d.left.at_ _ _ y
  simp only [own] at x
  rcases c.at_ b with ⟨a, e⟩ | ⟨a, e⟩ | ⟨o, a, e, g⟩ <;> simp_all

/-! ### Lists of assertions: one taken out, one put in its place -/

/-- 'c' stands in 'H'; the others are 'H''. -/
class Split (H : List HP) (c : HP) (H' : outParam (List HP)) : Prop where
  out : ∀ h, stars H h → stars (c :: H') h

instance (priority := 2000) Split.here {c : HP} {H : List HP} : Split (c :: H) c H := ⟨fun _ x => x⟩
instance (priority := 500) Split.there {c d : HP} {H H' : List HP} [s : Split H c H'] : Split (d :: H) c (d :: H') :=
  ⟨fun _ x => sep_left (sep_mono (fun _ x => x) (fun h y => s.out h y) x)⟩

/-- 'H' bears 'c', in whose place 'c'' gives 'H2'. -/
def Hole (H : List HP) (c c' : HP) (H2 : List HP) : Prop :=
  ∃ R : HP, (∀ h, stars H h → sep c R h) ∧ (∀ h, sep c' R h → stars H2 h)

theorem Hole.here {c c' : HP} {H : List HP} : Hole (c :: H) c c' (c' :: H) := ⟨stars H, fun _ x => x, fun _ x => x⟩
theorem Hole.there {c c' d : HP} {H H2 : List HP} (t : Hole H c c' H2) : Hole (d :: H) c c' (d :: H2) := by
  obtain ⟨R, a, b⟩ := t
  exact ⟨sep d R, fun h x => sep_left (sep_mono (fun _ x => x) a x), fun h x => sep_mono (fun _ x => x) b (sep_left x)⟩

theorem Sat.hole {w w' : World} {H H2 : List HP} {c c' : HP} (t : Hole H c c' H2) (s : Sat w (stars H))
    (f : ∀ R, Sat w (sep c R) → Sat w' (sep c' R)) : Sat w' (stars H2) :=
  let ⟨R, a, b⟩ := t; (f R (s.imp a)).imp b

theorem Sat.take {w : World} {H H' : List HP} {c : HP} [t : Split H c H'] (s : Sat w (stars H)) : Sat w (stars (c :: H')) := s.imp t.out

end Go.Ws
