/- Arguments that are structs of numbers, truth values, slices: their cells, told apart by their types. -/
import Derived.Test.YtgdioloappbjkaaGreatWsLaw
import Derived.ProofKit
import Derived.Lib.SmallJoins
namespace Go.Ws

/-- The types of a struct's cells, where its fields lie side by side. -/
def leavesF (P : Program) (f : TypeId → Option (List TypeId)) : List Field → Nat → Option (List TypeId)
  | [], _ => some []
  | x :: l, o => bif Nat.beq x.offset o then match f x.type with
    | some a => bif Nat.beq a.length (P.cellsOf x.type) then match leavesF P f l (o + a.length) with
      | some m => some (a ++ m)
      | none => none else none
    | none => none else none

def leaves (P : Program) : Nat → TypeId → Option (List TypeId)
  | 0, _ => none
  | k + 1, t => match P.underlying t with
    | some (.struct fs) => match leavesF P (leaves P k) fs.toList 0 with
      | some l => bif Nat.beq l.length (P.cellsOf t) then some l else none
      | none => none
    | some (.int _) => some [t]
    | some .bool => some [t]
    | some (.slice _) => some [t]
    | some .string => some [t]
    | _ => none

section
variable {H : Type} {enc : TypeId × Value → H} {P : Program} {w : World} {base : Nat} {spare : Nat → Bool} {held : Bool}

/-- A cell that reads as one of its type. -/
def OneOK (enc : TypeId × Value → H) (P : Program) (w : World) (base : Nat) (spare : Nat → Bool) (held : Bool) (t : TypeId) (c : Value) : Prop := ∃ fuel y, DataW.trod enc P w base spare held fuel t [c] = some y

theorem mapM_some {α β : Type} {f : α → Option β} : ∀ {l : List α} {ys : List β}, l.mapM f = some ys → ∀ x ∈ l, ∃ y, f x = some y
  | [], _, _, x, hx => by cases hx
  | a :: l, ys, h, x, hx => by
    simp only [List.mapM_cons, Option.bind_eq_bind, Option.bind_eq_some_iff, Option.pure_def, Option.some.injEq] at h
    obtain ⟨y, h1, ys', h2, _⟩ := h
    rcases List.mem_cons.1 hx with rfl | hx
    · exact ⟨y, h1⟩
    · exact mapM_some h2 x hx

theorem leavesF_ok {f : TypeId → Option (List TypeId)} {cs : List Value}
    (hf : ∀ (t : TypeId) (l : List TypeId), f t = some l → ∀ (fuel : Nat) (cs : List Value) y, DataW.trod enc P w base spare held fuel t cs = some y → cs.length = l.length ∧ ∀ (i : Nat) (lt : TypeId) (c : Value), l[i]? = some lt → cs[i]? = some c → OneOK enc P w base spare held lt c) :
    ∀ {fs : List Field} {o : Nat} {l : List TypeId}, leavesF P f fs o = some l → (∀ x ∈ fs, ∃ fuel y, DataW.trod enc P w base spare held fuel x.type ((cs.drop x.offset).take (P.cellsOf x.type)) = some y) →
      ∀ (i : Nat) (lt : TypeId) (c : Value), l[i]? = some lt → cs[o + i]? = some c → OneOK enc P w base spare held lt c
  | [], o, l, h, _, i, lt, c, hi, _ => by simp only [leavesF, Option.some.injEq] at h; subst h; simp at hi
  | x :: fs, o, l, h, ht, i, lt, c, hi, hc => by
    simp only [leavesF] at h
    cases hb : Nat.beq x.offset o with
    | false => rw [hb] at h; cases h
    | true =>
      have := Nat.eq_of_beq_eq_true hb
      subst this
      rw [hb, cond_true] at h
      cases ha : f x.type with
      | none => rw [ha] at h; cases h
      | some a =>
        rw [ha] at h
        simp only at h
        cases hl : Nat.beq a.length (P.cellsOf x.type) with
        | false => rw [hl] at h; cases h
        | true =>
          have hla := Nat.eq_of_beq_eq_true hl
          rw [hl, cond_true] at h
          cases hm : leavesF P f fs (x.offset + a.length) with
          | none => rw [hm] at h; cases h
          | some m =>
            rw [hm] at h
            simp only [Option.some.injEq] at h; subst h
            obtain ⟨fuel, y, hy⟩ := ht x (by simp)
            obtain ⟨g1, g2⟩ := hf _ _ ha _ _ _ hy
            by_cases hlt : i < a.length
            · rw [List.getElem?_append_left hlt] at hi
              refine g2 i lt c hi ?_
              rw [List.getElem?_take_of_lt (by omega), List.getElem?_drop]; exact hc
            · rw [List.getElem?_append_right (by omega)] at hi
              exact leavesF_ok hf hm (fun z hz => ht z (by simp [hz])) (i - a.length) lt c hi (by rw [show x.offset + a.length + (i - a.length) = x.offset + i from by omega]; exact hc)

theorem leaves_ok : ∀ (k : Nat) (t : TypeId) (l : List TypeId), leaves P k t = some l → ∀ (fuel : Nat) (cs : List Value) y, DataW.trod enc P w base spare held fuel t cs = some y →
    cs.length = l.length ∧ ∀ (i : Nat) (lt : TypeId) (c : Value), l[i]? = some lt → cs[i]? = some c → OneOK enc P w base spare held lt c
  | 0, t, l, h, _, _, _, _ => by simp [leaves] at h
  | k + 1, t, l, h, fuel, cs, y, hy => by
    have one : ∀ c, l = [t] → cs = [c] → cs.length = l.length ∧ ∀ (i : Nat) (lt : TypeId) (c : Value), l[i]? = some lt → cs[i]? = some c → OneOK enc P w base spare held lt c := by
      rintro c rfl rfl
      refine ⟨rfl, fun i lt c' h1 h2 => ?_⟩
      cases i with
      | zero => simp at h1 h2; subst h1 h2; exact ⟨fuel, y, hy⟩
      | succ i => simp at h1
    simp only [leaves] at h
    split at h
    · rename_i fs hu
      split at h
      rotate_left
      · cases h
      rename_i l' hl
      cases hb : Nat.beq l'.length (P.cellsOf t) with
      | false => rw [hb] at h; cases h
      | true =>
        rw [hb] at h
        simp only [cond_true, Option.some.injEq] at h; subst h
        have hlen := Nat.eq_of_beq_eq_true hb
        cases fuel with
        | zero => simp [DataW.trod] at hy
        | succ fuel =>
          unfold DataW.trod at hy
          rw [hu] at hy
          simp only at hy
          split at hy
          rotate_left
          · cases hy
          rename_i hc
          simp only [Option.map_eq_some_iff] at hy
          obtain ⟨xs, hx, _⟩ := hy
          refine ⟨by rw [hc, hlen], fun i lt c h1 h2 => ?_⟩
          refine leavesF_ok (cs := cs) (fun t l => leaves_ok k t l) hl (fun x hxf => ?_) i lt c h1 (by simpa using h2)
          obtain ⟨z, hz⟩ := mapM_some hx x hxf
          exact ⟨fuel, z, hz⟩
    · rename_i kd hu
      simp only [Option.some.injEq] at h
      obtain ⟨n, hcs, _⟩ := DataW.trod_int hu hy
      exact one _ h.symm hcs
    · rename_i hu
      simp only [Option.some.injEq] at h
      obtain ⟨n, hcs, _⟩ := DataW.trod_bool hu hy
      exact one _ h.symm hcs
    · rename_i e hu
      simp only [Option.some.injEq] at h
      obtain ⟨a, n, c, hcs⟩ := Joins.slice_form hu hy
      exact one _ h.symm hcs
    · rename_i hu
      simp only [Option.some.injEq] at h
      obtain ⟨s, hcs, _⟩ := DataW.trod_string hu hy
      exact one _ h.symm hcs
    · cases h

/-! ### Such cells for the interpreter -/

def numV : Value → Int | .int _ n => n | _ => 0
def boolV : Value → Bool | .bool b => b | _ => false
def slA : Value → Option Addr | .slice a _ _ => a | _ => none
def slN : Value → Nat | .slice _ n _ => n | _ => 0
def slC : Value → Nat | .slice _ _ c => c | _ => 0

def tagV (P : Program) (t : TypeId) (v : Value) : SV := match P.underlying t with
  | some (.int k) => .si k (numV v)
  | some .bool => .sb (boolV v)
  | some (.slice _) => .osl (slA v) (slN v) (slC v)
  | _ => .v v

def tagL (P : Program) : List TypeId → Nat → List Value → List SV
  | [], _, _ => []
  | t :: ts, i, l => tagV P t (l.getD i undef) :: tagL P ts (i + 1) l

theorem tagV_den {ι : Env} {t : TypeId} {v : Value} (h : OneOK enc P w base spare held t v) : den ι (tagV P t v) = some v := by
  obtain ⟨fuel, y, h⟩ := h
  unfold tagV
  split
  · rename_i k hu
    obtain ⟨n, hcs, _⟩ := DataW.trod_int hu h
    simp at hcs; subst hcs; rfl
  · rename_i hu
    obtain ⟨n, hcs, _⟩ := DataW.trod_bool hu h
    simp at hcs; subst hcs; rfl
  · rename_i e hu
    obtain ⟨a, n, c, hcs⟩ := Joins.slice_form hu h
    simp at hcs; subst hcs; rfl
  · rfl

theorem tagL_den {ι : Env} {cs : List Value} : ∀ (ts : List TypeId) (i : Nat), i + ts.length = cs.length → (∀ (j : Nat) (t : TypeId) (c : Value), ts[j]? = some t → cs[i + j]? = some c → OneOK enc P w base spare held t c) → dens ι (tagL P ts i cs) = some (cs.drop i)
  | [], i, h, _ => by simp only [tagL, dens]; rw [List.drop_eq_nil_of_le (by simp at h; omega)]
  | t :: ts, i, h, ht => by
    simp only [List.length_cons] at h
    have hi : i < cs.length := by omega
    refine dens_cons.2 ⟨cs[i], cs.drop (i + 1), ?_, tagL_den ts (i + 1) (by omega) (fun j u c h1 h2 => ht (j + 1) u c (by simpa using h1) (by rw [show i + (j + 1) = i + 1 + j from by omega]; exact h2)), List.drop_eq_getElem_cons hi⟩
    have : cs.getD i undef = cs[i] := by simp [List.getD_eq_getElem?_getD, hi]
    rw [this]
    exact tagV_den (ht 0 t _ rfl (by simp [hi]))

/-- A struct's value, for the interpreter. -/
theorem tag_struct {ι : Env} {k : Nat} {t : TypeId} {ls : List TypeId} {cs : Array Value} {d : DataW H} {p : List MemPlace} (hl : leaves P k t = some ls) (h : DataW.Trod enc P w base spare held t (.agg cs) d p) :
    den ι (.agg (tagL P ls 0 cs.toList)) = some (.agg cs) := by
  obtain ⟨fuel, hf⟩ := h
  obtain ⟨h1, h2⟩ := leaves_ok k t ls hl fuel _ _ hf
  simp only [Value.cells] at h1 h2
  have := tagL_den (ι := ι) (enc := enc) (P := P) (w := w) (base := base) (spare := spare) (held := held) (cs := cs.toList) ls 0 (by rw [h1]; simp) (fun j u c h3 h4 => h2 j u c h3 (by simpa using h4))
  simp [den, this]

end
end Go.Ws
