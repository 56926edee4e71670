/- Composite values; slices that are owned. -/
import Derived.Test.YtgdioloappbjkaaGreatWsPlan
import Derived.Laws.Append
set_option linter.unusedSectionVars false
set_option linter.unusedVariables false
set_option linter.unusedSimpArgs false
namespace Go.Ws

/-! ### The cells of a value -/

class CV (v : Value) (vs : outParam (List Value)) : Prop where
  cells : v.cells = vs.toArray
instance {l : List Value} : CV (.agg l.toArray) l := ⟨rfl⟩
instance {k : IntKind} {n : Int} : CV (.int k n) [.int k n] := ⟨rfl⟩
instance {b : Bool} : CV (.bool b) [.bool b] := ⟨rfl⟩
instance {s : ByteArray} : CV (.string s) [.string s] := ⟨rfl⟩
instance {p : Option Addr} : CV (.pointer p) [.pointer p] := ⟨rfl⟩
instance {p : Option Addr} {n c : Nat} : CV (.slice p n c) [.slice p n c] := ⟨rfl⟩
instance {r : Option Nat} : CV (.map r) [.map r] := ⟨rfl⟩
instance {f : Fn} {a b : Array Value} : CV (.func f a b) [.func f a b] := ⟨rfl⟩
instance : CV .nilFunc [.nilFunc] := ⟨rfl⟩
instance {t : TypeId} {v : Value} : CV (.iface t v) [.iface t v] := ⟨rfl⟩
instance : CV .nilIface [.nilIface] := ⟨rfl⟩

class NthP (l : List (Nat × Nat)) (i : Nat) (a b : outParam Nat) : Prop where
  nth : l[i]? = some (a, b)
instance NthP.zero {a b : Nat} {l : List (Nat × Nat)} : NthP ((a, b) :: l) 0 a b := ⟨rfl⟩
instance NthP.succ {x : Nat × Nat} {l : List (Nat × Nat)} {i a b : Nat} [h : NthP l i a b] : NthP (x :: l) (i + 1) a b := ⟨by simpa using h.nth⟩

class IsLen (l : List Value) (n : Nat) : Prop where
  len : l.length = n
instance IsLen.zero : IsLen [] 0 := ⟨rfl⟩
instance IsLen.succ {x : Value} {l : List Value} {n : Nat} [h : IsLen l n] : IsLen (x :: l) (n + 1) := ⟨by simp [h.len]⟩

/-- What parts make of a zero value. -/
class PartsL (pl : List (Nat × Nat)) (zs : List Value) (parts : List (Nat × Value)) (out : outParam (List Value)) : Prop where
  fill : Instr.fill (pl.toArray[·]?) zs.toArray parts = some out.toArray

theorem foldl_splice (off : Nat) : ∀ (vs : List Value) (k : Nat) (l : List Value), off + k + vs.length ≤ l.length →
    (vs.zipIdx k).foldl (fun (cs : Array Value) (p : Value × Nat) => cs.setIfInBounds (off + p.2) p.1) l.toArray = (l.take (off + k) ++ vs ++ l.drop (off + k + vs.length)).toArray
  | [], k, l, _ => by simp
  | v :: vs, k, l, h => by
    simp only [List.length_cons] at h
    simp only [List.zipIdx_cons, List.foldl_cons, List.setIfInBounds_toArray]
    rw [foldl_splice off vs (k + 1) (l.set (off + k) v) (by simp; omega)]
    congr 1
    apply List.ext_getElem?
    intro x
    simp only [List.getElem?_append, List.length_take, List.length_append, List.getElem?_take, List.getElem?_drop, List.length_set, List.getElem?_set, List.length_cons]
    by_cases h1 : x < off + k
    · rw [if_pos (by omega), if_pos (by omega), if_pos (by omega), if_neg (by omega), if_pos (by omega), if_pos (by omega), if_pos h1]
    · by_cases h2 : x = off + k
      · subst h2
        rw [if_pos (by omega), if_pos (by omega), if_pos (by omega), if_pos rfl, if_pos (by omega), if_pos (by omega), if_neg (by omega)]
        have : off + k - min (off + k) l.length = 0 := by omega
        simp [this]
      · by_cases h3 : x < off + k + (vs.length + 1)
        · rw [if_pos (by omega), if_neg (by omega), if_pos (by omega), if_neg (by omega)]
          rw [show x - min (off + k) l.length = (x - min (off + (k + 1)) l.length) + 1 from by omega, List.getElem?_cons_succ]
        · rw [if_neg (by omega), if_neg (by omega), if_neg (by omega)]
          congr 1
          omega

theorem fill_cons {place : Nat → Option (Nat × Nat)} {zs : List Value} {i : Nat} {v : Value} {vs : List Value} {rest : List (Nat × Value)} {off size : Nat}
    (hp : place i = some (off, size)) (hv : v.cells = vs.toArray) (hs : vs.length = size) (hl : off + vs.length ≤ zs.length) :
    Instr.fill place zs.toArray ((i, v) :: rest) = Instr.fill place (zs.take off ++ vs ++ zs.drop (off + vs.length)).toArray rest := by
  simp only [Instr.fill, hp, hv, List.size_toArray]
  rw [if_neg (by simp [hs]; omega)]
  congr 1
  have := foldl_splice off vs 0 zs (by simpa using hl)
  simp only [Nat.add_zero] at this
  rw [← this]
  rw [← Array.foldl_toList]
  simp

instance PartsL.nil {pl : List (Nat × Nat)} {zs : List Value} : PartsL pl zs [] zs := ⟨rfl⟩
instance PartsL.cons {pl : List (Nat × Nat)} {zs zs1 out vs : List Value} {i off size : Nat} {v : Value} {rest : List (Nat × Value)}
    [hp : NthP pl i off size] [hv : CV v vs] [hs : IsLen vs size] [hc : SpliceL zs off vs zs1] [hr : PartsL pl zs1 rest out] : PartsL pl zs ((i, v) :: rest) out := ⟨by
  rw [fill_cons (off := off) (size := size) (by simpa using hp.nth) hv.cells hs.len hc.splice.2, ← hc.splice.1]
  exact hr.fill⟩


def evalPs (rs : List (Nat × Value)) : List (Nat × Operand) → Option (List (Nat × Value))
  | [] => some []
  | (i, x) :: l => match evalO rs x, evalPs rs l with
    | some v, some vs => some ((i, v) :: vs)
    | _, _ => none

section
variable {P : Program} {ρ : Option Nat} {n : Nat} {ds : List Deferred} {rs : List (Nat × Value)} {H H' : List HP} {Q : Exit → Act → World → Prop}
variable {ops : Array Oper} {rest : List Oper} {ty : TypeId} {ps : String} {af : Array Edge} {d : Nat} {x y : Operand} {T T' : TypeId} {b o i off k : Nat} {cs cs' vs : List Value} {v : Value}

theorem Regs.evalPs {a : Act} (r : Regs n ds rs a) : ∀ {l : List (Nat × Operand)} {vs : List (Nat × Value)}, Ws.evalPs rs l = some vs → l.map (fun p => (p.1, a.eval p.2)) = vs
  | [], vs, e => by cases e; rfl
  | (i, x) :: l, vs, e => by
    simp only [Ws.evalPs] at e
    split at e
    · rename_i v us h1 h2
      cases e
      simp [r.eval h1, Regs.evalPs r h2]
    · cases e

/-- A struct, an array that is built: zero's cells, the places of its parts. -/
class SB (P : Program) (T : TypeId) (zs : outParam (List Value)) (pl : outParam (List (Nat × Nat))) : Prop where
  build : ∀ w (parts : Array (Nat × Value)) c, Instr.fill (pl.toArray[·]?) zs.toArray parts.toList = some c → (Instr.build T parts).run P w = .ok (.agg c) w

theorem V_bld {zs out : List Value} {pl : List (Nat × Nat)} {l : List (Nat × Operand)} {parts : List (Nat × Value)} [hb : SB P T zs pl] (hp : evalPs rs l = some parts) [hf : PartsL pl zs parts out] :
    VOp P n ds rs H Tr (.build T l.toArray) (.agg out.toArray) := .pure fun o ho a w r => by
  have h1 := r.evalPs hp
  have h2 := hb.build w parts.toArray out.toArray hf.fill
  simp [execOp, ho, h1, h2]

/-! ### Slices that are owned -/

/-- The slice at 'oa', of capacity 'c', with these rows of 'sz' cells each. -/
def sl (oa : Option Addr) (c : Nat) (T : TypeId) (sz : Nat) (rows : List (List Value)) : HP := fun h =>
  (∀ r ∈ rows, r.length = sz) ∧ rows.length ≤ c ∧
  ((oa = none ∧ c = 0) ∨ ∃ b sp, oa = some ⟨b, 0, none⟩ ∧ sp.length = (c - rows.length) * sz ∧ h b = some (true, .cells (rows.flatten ++ sp).toArray T (0, 0)))

/-- The place of a cell of it. -/
def elp (oa : Option Addr) (o : Nat) : Value := .pointer (oa.map fun a => ⟨a.block, o, none⟩)

theorem flatten_at {sz : Nat} : ∀ {rows : List (List Value)} {i k : Nat} {r : List Value}, (∀ r ∈ rows, r.length = sz) → rows[i]? = some r → k < sz → rows.flatten[i * sz + k]? = r[k]?
  | [], i, k, r, _, h, _ => by simp at h
  | q :: rows, 0, k, r, hs, h, hk => by
    simp at h; subst h
    have := hs q (by simp)
    simp only [List.flatten_cons, Nat.zero_mul, Nat.zero_add]
    rw [List.getElem?_append_left (by omega)]
  | q :: rows, i + 1, k, r, hs, h, hk => by
    have hq := hs q (by simp)
    simp only [List.flatten_cons]
    have e : (i + 1) * sz + k = q.length + (i * sz + k) := by rw [Nat.succ_mul, hq]; omega
    rw [e, List.getElem?_append_right (by omega), Nat.add_sub_cancel_left]
    exact flatten_at (fun r hr => hs r (by simp [hr])) (by simpa using h) hk

theorem flatten_len {sz : Nat} : ∀ {rows : List (List Value)}, (∀ r ∈ rows, r.length = sz) → rows.flatten.length = rows.length * sz
  | [], _ => by simp
  | q :: rows, hs => by
    simp only [List.flatten_cons, List.length_append, List.length_cons]
    rw [flatten_len (fun r hr => hs r (by simp [hr])), hs q (by simp), Nat.succ_mul]; omega

class SlAt (H : List HP) (oa : Option Addr) (c : outParam Nat) (T : outParam TypeId) (sz : outParam Nat) (rows : outParam (List (List Value))) : Prop where
  hole : ∀ c', ∃ H2, Hole H (sl oa c T sz rows) c' H2
instance (priority := 2000) SlAt.here {H : List HP} {oa : Option Addr} {c : Nat} {T : TypeId} {sz : Nat} {rows : List (List Value)} : SlAt (sl oa c T sz rows :: H) oa c T sz rows := ⟨fun c' => ⟨c' :: H, .here⟩⟩
instance (priority := 500) SlAt.there {H : List HP} {p : HP} {oa : Option Addr} {c : Nat} {T : TypeId} {sz : Nat} {rows : List (List Value)} [h : SlAt H oa c T sz rows] : SlAt (p :: H) oa c T sz rows :=
  ⟨fun c' => let ⟨H2, t⟩ := h.hole c'; ⟨p :: H2, t.there⟩⟩

class SlSet (H : List HP) (oa : Option Addr) (c : outParam Nat) (T : outParam TypeId) (sz : outParam Nat) (rows : outParam (List (List Value))) (p' : HP) (H2 : outParam (List HP)) : Prop where
  hole : Hole H (sl oa c T sz rows) p' H2
instance (priority := 2000) SlSet.here {H : List HP} {oa : Option Addr} {c : Nat} {T : TypeId} {sz : Nat} {rows : List (List Value)} {p' : HP} : SlSet (sl oa c T sz rows :: H) oa c T sz rows p' (p' :: H) := ⟨.here⟩
instance (priority := 500) SlSet.there {H H2 : List HP} {p p' : HP} {oa : Option Addr} {c : Nat} {T : TypeId} {sz : Nat} {rows : List (List Value)} [h : SlSet H oa c T sz rows p' H2] : SlSet (p :: H) oa c T sz rows p' (p :: H2) := ⟨h.hole.there⟩

variable {oa : Option Addr} {c sz : Nat} {rows : List (List Value)} {r : List Value}

theorem sl_open {w : World} {R : HP} (s : Sat w (sep (sl oa c T sz rows) R)) : (∀ r ∈ rows, r.length = sz) ∧ rows.length ≤ c ∧
    ((oa = none ∧ c = 0) ∨ ∃ b sp, oa = some ⟨b, 0, none⟩ ∧ sp.length = (c - rows.length) * sz ∧ Sat w (sep (own b (.cells (rows.flatten ++ sp).toArray T (0, 0))) R)) := by
  obtain ⟨h, ⟨h1, h2, cc, ⟨g1, g2, g3⟩, y⟩, g⟩ := s
  refine ⟨g1, g2, ?_⟩
  rcases g3 with g3 | ⟨b, sp, e1, e2, e3⟩
  · exact .inl g3
  · exact .inr ⟨b, sp, e1, e2, h, ⟨h1, h2, cc, e3, y⟩, g⟩

theorem sl_shut {w : World} {R : HP} {b : Nat} {sp : List Value} (hs : ∀ r ∈ rows, r.length = sz) (hc : rows.length ≤ c) (hsp : sp.length = (c - rows.length) * sz)
    (s : Sat w (sep (own b (.cells (rows.flatten ++ sp).toArray T (0, 0))) R)) : Sat w (sep (sl (some ⟨b, 0, none⟩) c T sz rows) R) :=
  s.imp fun _ x => sep_mono (fun _ y => ⟨hs, hc, .inr ⟨b, sp, rfl, hsp, y⟩⟩) (fun _ x => x) x

theorem SlAt.sat (h : SlAt H oa c T sz rows) {w : World} (s : Sat w (stars H)) : ∃ R, Sat w (sep (sl oa c T sz rows) R) :=
  let ⟨_, R, a, _⟩ := h.hole emp; ⟨R, s.imp a⟩

/-- A cell of it. -/
theorem SlAt.cell (h : SlAt H oa c T sz rows) {w : World} (s : Sat w (stars H)) {j k : Nat} (hr : rows[j]? = some r) (hk : k < sz) :
    ∃ b, oa = some ⟨b, 0, none⟩ ∧ w.cell? ⟨b, j * sz + k, none⟩ = r[k]? := by
  obtain ⟨R, s'⟩ := h.sat s
  obtain ⟨h1, h2, h3⟩ := sl_open s'
  have hj : j < rows.length := (List.getElem?_eq_some_iff.1 hr).1
  rcases h3 with ⟨_, h3⟩ | ⟨b, sp, e1, e2, h4⟩
  · omega
  · refine ⟨b, e1, ?_⟩
    have hlt : j * sz + k < rows.flatten.length := by
      rw [flatten_len h1]
      have : (j + 1) * sz ≤ rows.length * sz := Nat.mul_le_mul_right _ hj
      rw [Nat.succ_mul] at this; omega
    rw [cell_of_heap (own_at h4), List.getElem?_append_left hlt]
    exact flatten_at h1 hr hk

/-- These cells stand in that row. -/
def Row (oa : Option Addr) (o : Nat) (vs : List Value) : World → Prop := fun w => ∃ b, oa = some ⟨b, 0, none⟩ ∧ Cells b o vs w

theorem V_ia {e : TypeId} {idx : Int} {m : Nat} [hu : UT P T (.slice e)] [hz : SZ P e sz] (hx : evalO rs x = some (.slice oa m c)) (hy : evalO rs y = some (.int .i64 idx)) [ha : SlAt H oa c T' sz rows] (h0 : 0 ≤ idx) (h1 : idx < m) (hk : idx.toNat = k) (hm : m = rows.length) :
    VOp P n ds rs H (fun _ => ∃ b, oa = some ⟨b, 0, none⟩) (.indexAddr T x y) (elp oa (k * sz)) := ⟨fun w s => by
  obtain ⟨R, s'⟩ := ha.sat s
  obtain ⟨_, g2, g3⟩ := sl_open s'
  rcases g3 with ⟨_, g3⟩ | ⟨b, sp, e1, _⟩
  · omega
  · exact ⟨b, e1⟩, fun o ho a w r ⟨b, hb⟩ => by
  subst hb
  simp [execOp, ho, r.eval hx, r.eval hy, Instr.indexAt, asIntOf, underlying, hu.under, h0, h1, hz.size, add_none, elp, hk]⟩

theorem V_ld_rowx {j off : Nat} [NA P T] (hx : evalO rs x = some (elp oa o)) (ha : SlAt H oa c T' sz rows) (ho : o = j * sz + off) (hr : rows[j]? = some r) (hv : NthL r off v) : VOp P n ds rs H (Row oa o [v]) (.load T x) v :=
  ⟨fun w s => by
    obtain ⟨R, s'⟩ := ha.sat s
    have hlen := (sl_open s').1 r (List.mem_of_getElem? hr)
    have hlt : off < sz := by rw [← hlen]; exact (List.getElem?_eq_some_iff.1 hv.nth).1
    obtain ⟨b, e, hc⟩ := ha.cell s hr hlt
    refine ⟨b, e, fun j hj => ?_⟩
    have : j = 0 := by simpa using hj
    subst this
    rw [ho, Nat.add_zero, hc]; exact hv.nth, fun op hop a w rg ⟨b, hb, hc⟩ => by
    subst hb
    have h2 := hc 0 (by simp)
    simp only [Nat.add_zero, List.getElem?_cons_zero] at h2
    simp [execOp, hop, rg.eval hx, elp, Instr.loadAt, Instr.sureAddr, loadVar, NA.no (P := P) (T := T), h2]⟩

theorem V_lda_rowx {j off : Nat} [AG P T] (hk : SZ P T k) (hx : evalO rs x = some (elp oa o)) (ha : SlAt H oa c T' sz rows) (ho : o = j * sz + off) (hr : rows[j]? = some r) (hv : SubL r off k vs) (hle : off + k ≤ sz) :
    VOp P n ds rs H (Row oa o vs) (.load T x) (.agg vs.toArray) :=
  ⟨fun w s => by
    have key : ∀ j', j' < vs.length → ∃ b, oa = some ⟨b, 0, none⟩ ∧ w.cell? ⟨b, o + j', none⟩ = vs[j']? := fun j' hj' => by
      have h1 := hv.sub
      obtain ⟨b, e, hc⟩ := ha.cell s hr (k := off + j') (by omega)
      refine ⟨b, e, ?_⟩
      rw [ho, Nat.add_assoc, hc, ← h1.1, List.getElem?_take_of_lt (by omega), List.getElem?_drop]
    obtain ⟨R, s'⟩ := ha.sat s
    have hj : j < rows.length := (List.getElem?_eq_some_iff.1 hr).1
    obtain ⟨_, g2, g3⟩ := sl_open s'
    rcases g3 with ⟨_, g3⟩ | ⟨b, sp, e1, _⟩
    · omega
    · refine ⟨b, e1, fun j' hj' => ?_⟩
      obtain ⟨b', e', hc⟩ := key j' hj'
      rw [e1] at e'; cases e'; exact hc, fun op hop a w rg ⟨b, hb, hc⟩ => by
    subst hb
    have h2 : (loadCells ⟨b, o, none⟩ k).run P w = .ok vs.toArray w := run_loadCells (fun j hj => hc j (by rw [hv.sub.2]; exact hj)) hv.sub.2
    simp [execOp, hop, rg.eval hx, elp, Instr.loadAt, Instr.sureAddr, loadVar, AG.yes (P := P) (T := T), hk.size, h2]⟩

theorem V_fae [hf : FA P T i off] (hx : evalO rs x = some (elp (some ⟨b, 0, none⟩) o)) : VOp P n ds rs H Tr (.fieldAddr T x i) (elp (some ⟨b, 0, none⟩) (o + off)) := .pure fun op hop a w r => by
  have h1 : a.eval x = ptr b o := r.eval hx
  simp [execOp, hop, h1, hf.field, elp]

/-- A field's place, in a slice that is there. -/
theorem V_fae' [hf : FA P T i off] (hx : evalO rs x = some (elp oa o)) [ha : SlAt H oa c T' sz rows] (hne : 0 < rows.length) : VOp P n ds rs H (fun _ => ∃ b, oa = some ⟨b, 0, none⟩) (.fieldAddr T x i) (elp oa (o + off)) :=
  ⟨fun w s => by
    obtain ⟨R, s'⟩ := ha.sat s
    obtain ⟨_, g2, g3⟩ := sl_open s'
    rcases g3 with ⟨_, g3⟩ | ⟨b, sp, e1, _⟩
    · omega
    · exact ⟨b, e1⟩, fun op hop a w r ⟨b, hb⟩ => by
    subst hb
    have h1 : a.eval x = ptr b o := r.eval hx
    simp [execOp, hop, h1, hf.field, elp]⟩

theorem V_nile (hx : evalO rs x = some (elp oa o)) [ha : SlAt H oa c T' sz rows] (hne : 0 < rows.length) : VOp P n ds rs H (fun _ => ∃ b, oa = some ⟨b, 0, none⟩) (.nilCheck x) (elp oa o) :=
  ⟨fun w s => by
    obtain ⟨R, s'⟩ := ha.sat s
    obtain ⟨_, g2, g3⟩ := sl_open s'
    rcases g3 with ⟨_, g3⟩ | ⟨b, sp, e1, _⟩
    · omega
    · exact ⟨b, e1⟩, fun op hop a w r ⟨b, hb⟩ => by
    subst hb
    have h1 : a.eval x = ptr b o := r.eval hx
    simp [execOp, hop, h1, elp]⟩


theorem V_ld_row0 {j : Nat} [NA P T] (hx : evalO rs x = some (elp oa (j * sz))) [ha : SlAt H oa c T' sz rows] (hr : rows[j]? = some r) [hv : NthL r 0 v] : VOp P n ds rs H (Row oa (j * sz) [v]) (.load T x) v :=
  V_ld_rowx hx ha (Nat.add_zero _).symm hr hv
theorem V_ld_row {j off : Nat} [NA P T] (hx : evalO rs x = some (elp oa (j * sz + off))) [ha : SlAt H oa c T' sz rows] (hr : rows[j]? = some r) [hv : NthL r off v] : VOp P n ds rs H (Row oa (j * sz + off) [v]) (.load T x) v :=
  V_ld_rowx hx ha rfl hr hv
theorem V_lda_row0 {j : Nat} [AG P T] [hk : SZ P T k] (hx : evalO rs x = some (elp oa (j * sz))) [ha : SlAt H oa c T' sz rows] (hr : rows[j]? = some r) [hv : SubL r 0 k vs] (hle : k ≤ sz) : VOp P n ds rs H (Row oa (j * sz) vs) (.load T x) (.agg vs.toArray) :=
  V_lda_rowx hk hx ha (Nat.add_zero _).symm hr hv (by omega)
theorem V_lda_row {j off : Nat} [AG P T] [hk : SZ P T k] (hx : evalO rs x = some (elp oa (j * sz + off))) [ha : SlAt H oa c T' sz rows] (hr : rows[j]? = some r) [hv : SubL r off k vs] (hle : off + k ≤ sz) : VOp P n ds rs H (Row oa (j * sz + off) vs) (.load T x) (.agg vs.toArray) :=
  V_lda_rowx hk hx ha rfl hr hv hle
theorem V_fae0 {j : Nat} [hf : FA P T i off] (hx : evalO rs x = some (elp oa (j * sz))) [ha : SlAt H oa c T' sz rows] (hne : 0 < rows.length) : VOp P n ds rs H (fun _ => ∃ b, oa = some ⟨b, 0, none⟩) (.fieldAddr T x i) (elp oa (j * sz + off)) := V_fae' hx hne
theorem V_fae2 {j : Nat} [hf : FA P T i off] (hx : evalO rs x = some (elp oa (j * sz + k))) [ha : SlAt H oa c T' sz rows] (hne : 0 < rows.length) (hk : k + off = o) : VOp P n ds rs H (fun _ => ∃ b, oa = some ⟨b, 0, none⟩) (.fieldAddr T x i) (elp oa (j * sz + o)) := by
  have := V_fae' (P := P) (n := n) (ds := ds) (i := i) (off := off) (T := T) (H := H) hx hne
  rw [Nat.add_assoc, hk] at this
  exact this

theorem flatten_set {sz : Nat} : ∀ {rows : List (List Value)} {j off : Nat} {r r' vs : List Value}, (∀ r ∈ rows, r.length = sz) → rows[j]? = some r → r' = r.take off ++ vs ++ r.drop (off + vs.length) → off + vs.length ≤ r.length →
    (rows.set j r').flatten = rows.flatten.take (j * sz + off) ++ vs ++ rows.flatten.drop (j * sz + off + vs.length)
  | [], j, _, _, _, _, _, h, _, _ => by simp at h
  | q :: rows, 0, off, r, r', vs, hs, h, e, hl => by
    simp at h; subst h
    simp only [List.set_cons_zero, List.flatten_cons, Nat.zero_mul, Nat.zero_add]
    rw [List.take_append_of_le_length (by omega), List.drop_append_of_le_length (by omega), e]
    simp
  | q :: rows, j + 1, off, r, r', vs, hs, h, e, hl => by
    have hq := hs q (by simp)
    simp only [List.set_cons_succ, List.flatten_cons]
    rw [flatten_set (fun r hr => hs r (by simp [hr])) (by simpa using h) e hl]
    have e1 : (j + 1) * sz + off = q.length + (j * sz + off) := by rw [Nat.succ_mul, hq]; omega
    rw [e1, show q.length + (j * sz + off) + vs.length = q.length + (j * sz + off + vs.length) from by omega, List.take_length_add_append, List.drop_length_add_append]
    simp

/-- A store into a row. -/
theorem store_row {w : World} {R : HP} {j off : Nat} {r' : List Value} (hr : rows[j]? = some r) (hc : SpliceL r off vs r') (h1 : vs.all Value.oneCell' = true) (s : Sat w (sep (sl oa c T sz rows) R)) :
    ∃ b w', oa = some ⟨b, 0, none⟩ ∧ (storeCells ⟨b, j * sz + off, none⟩ vs).run P w = .ok () w' ∧ Sat w' (sep (sl oa c T sz (rows.set j r')) R) := by
  obtain ⟨g1, g2, g3⟩ := sl_open s
  have hj : j < rows.length := (List.getElem?_eq_some_iff.1 hr).1
  rcases g3 with ⟨_, g3⟩ | ⟨b, sp, e1, e2, s'⟩
  · omega
  · have hb := own_at s'
    have hrl := g1 r (List.mem_of_getElem? hr)
    have hsp := hc.splice
    have hfl := flatten_len g1
    have hle : (j + 1) * sz ≤ rows.length * sz := Nat.mul_le_mul_right _ hj
    rw [Nat.succ_mul] at hle
    have hrun := run_storeCells (P := P) (b := b) (o := j * sz + off) vs 0 w _ hb (by simp only [List.length_append]; omega) h1
    subst e1
    refine ⟨b, _, rfl, hrun, ?_⟩
    refine sl_shut (sp := sp) ?_ (by simpa using g2) (by simpa using e2) ?_
    · intro q hq
      rcases List.mem_or_eq_of_mem_set hq with h | h
      · exact g1 q h
      · rw [h, hsp.1]; simp; omega
    · refine own_set s' ?_
      have e3 : (rows.set j r').flatten ++ sp = (rows.flatten ++ sp).take (j * sz + off + 0) ++ vs ++ (rows.flatten ++ sp).drop (j * sz + off + 0 + vs.length) := by
        rw [flatten_set g1 hr hsp.1 hsp.2, Nat.add_zero, List.take_append_of_le_length (by omega), List.drop_append_of_le_length (by omega)]
        simp
      rw [e3]
      exact setB_at hb

theorem J_st_rowx {j off : Nat} {r' : List Value} {H2 : List HP} (hk : SZ P T 1) (hx : evalO rs x = some (elp oa o)) (hoo : o = j * sz + off) (hy : evalO rs y = some v) (h1 : v.oneCell' = true) (hr : rows[j]? = some r) (hc : SpliceL r off [v] r')
    (hs : SlSet H oa c T' sz rows (sl oa c T' sz (rows.set j r')) H2) (h : J n ds rs H2 (wpListIn (Fc ρ) 0 P ops Q rest)) : J n ds rs H (wpListIn (Fc ρ) 0 P ops Q (⟨none, .store T x y, ty, ps, af, none⟩ :: rest)) :=
  J_skipw (fun a w rg s => by
    obtain ⟨R, ha, hb⟩ := hs.hole
    obtain ⟨b, w', e1, hrun, s'⟩ := store_row (P := P) (vs := [v]) hr hc (by simp [h1]) (s.imp ha)
    subst e1; subst hoo
    have hxe : a.eval x = ptr b (j * sz + off) := rg.eval hx
    have e : v.cells = #[v] := by cases v <;> first | rfl | cases h1
    exact ⟨w', by simp [execOp, hxe, rg.eval hy, Instr.storeAt, Instr.sureAddr, storeVar, hk.size, e, hrun], s'.imp hb⟩) h

theorem J_st_row0 {j : Nat} {r' : List Value} {H2 : List HP} [hk : SZ P T 1] (hx : evalO rs x = some (elp oa (j * sz))) (hy : evalO rs y = some v) (h1 : v.oneCell' = true) [_ha : SlAt H oa c T' sz rows] (hr : rows[j]? = some r) [hc : SpliceL r 0 [v] r']
    [hs : SlSet H oa c T' sz rows (sl oa c T' sz (rows.set j r')) H2] (h : J n ds rs H2 (wpListIn (Fc ρ) 0 P ops Q rest)) : J n ds rs H (wpListIn (Fc ρ) 0 P ops Q (⟨none, .store T x y, ty, ps, af, none⟩ :: rest)) :=
  J_st_rowx hk hx (Nat.add_zero _).symm hy h1 hr hc hs h
theorem J_st_row {j off : Nat} {r' : List Value} {H2 : List HP} [hk : SZ P T 1] (hx : evalO rs x = some (elp oa (j * sz + off))) (hy : evalO rs y = some v) (h1 : v.oneCell' = true) [_ha : SlAt H oa c T' sz rows] (hr : rows[j]? = some r) [hc : SpliceL r off [v] r']
    [hs : SlSet H oa c T' sz rows (sl oa c T' sz (rows.set j r')) H2] (h : J n ds rs H2 (wpListIn (Fc ρ) 0 P ops Q rest)) : J n ds rs H (wpListIn (Fc ρ) 0 P ops Q (⟨none, .store T x y, ty, ps, af, none⟩ :: rest)) :=
  J_st_rowx hk hx rfl hy h1 hr hc hs h

/-! ### Slices that are built -/

/-- The rows of parts that come one behind the other. -/
class PartRows (k sz : Nat) (parts : List (Nat × Value)) (rows : outParam (List (List Value))) : Prop where
  cells : ∀ i p, parts[i]? = some p → p.1 = k + i ∧ ∃ r, rows[i]? = some r ∧ p.2.cells = r.toArray ∧ r.length = sz
  len : rows.length = parts.length
instance PartRows.nil {k sz : Nat} : PartRows k sz [] [] := ⟨fun _ _ h => by simp at h, rfl⟩
instance PartRows.cons {k sz : Nat} {v : Value} {vs : List Value} {rest : List (Nat × Value)} {rows : List (List Value)} [hv : CV v vs] [hl : IsLen vs sz] [hr : PartRows (k + 1) sz rest rows] :
    PartRows k sz ((k, v) :: rest) (vs :: rows) := ⟨fun i p h => by
  cases i with
  | zero => simp at h; subst h; exact ⟨rfl, vs, rfl, hv.cells, hl.len⟩
  | succ i =>
    simp at h
    obtain ⟨h1, h2⟩ := hr.cells i p h
    exact ⟨by omega, by simpa using h2⟩, by simp [hr.len]⟩

theorem fill_rows {sz : Nat} : ∀ {parts : List (Nat × Value)} {rows : List (List Value)} {k : Nat} {l : List Value}, PartRows k sz parts rows → l.length = (k + parts.length) * sz →
    Instr.fill (fun i => some (i * sz, sz)) l.toArray parts = some (l.take (k * sz) ++ rows.flatten).toArray
  | [], rows, k, l, h, hl => by
    have : rows = [] := List.length_eq_zero_iff.1 h.len
    subst this
    simp only [Instr.fill, List.flatten_nil, List.append_nil]
    rw [List.take_of_length_le (by simp at hl; omega)]
  | (i, v) :: rest, rows, k, l, h, hl => by
    obtain ⟨h1, r, h2, h3, h4⟩ := h.cells 0 (i, v) rfl
    simp only [Nat.add_zero] at h1
    subst h1
    cases rows with
    | nil => simp at h2
    | cons r' rows =>
      simp at h2; subst h2
      simp only [List.length_cons] at hl
      have hk : i * sz + sz ≤ l.length := by rw [hl, Nat.add_mul, Nat.succ_mul]; omega
      rw [fill_cons (off := i * sz) (size := sz) rfl h3 h4 (by omega)]
      have h' : PartRows (i + 1) sz rest rows := ⟨fun j p hj => by
        obtain ⟨g1, g2⟩ := h.cells (j + 1) p (by simpa using hj)
        exact ⟨by omega, by simpa using g2⟩, by have := h.len; simpa using this⟩
      rw [fill_rows h' (by simp [List.length_take, h4, Nat.min_eq_left (show i * sz ≤ l.length by omega)]; rw [hl, Nat.add_mul, Nat.add_mul, Nat.add_mul] ; simp only [Nat.succ_mul]; omega)]
      congr 2
      rw [List.append_assoc, List.take_append, List.length_take, Nat.min_eq_left (show i * sz ≤ l.length by omega), List.take_take, Nat.min_eq_right (by rw [Nat.succ_mul]; omega)]
      have e1 : (i + 1) * sz - i * sz = r'.length := by rw [Nat.succ_mul, h4]; omega
      rw [e1, List.take_append_of_le_length (Nat.le_refl _), List.take_length]
      simp

theorem sl_new {b : Nat} {h : Hl} (hs : ∀ r ∈ rows, r.length = sz) (x : own b (.cells rows.flatten.toArray T (0, 0)) h) : sl (some ⟨b, 0, none⟩) rows.length T sz rows h :=
  ⟨hs, Nat.le_refl _, .inr ⟨b, [], rfl, by simp, by simpa [own] using x⟩⟩

theorem N_bs {m e : Nat} {zs : List Value} {l : List (Nat × Operand)} {parts : List (Nat × Value)} [hu : UT P T (.slice e)] [hz : SZ P e sz] [hzv : ZV P e zs] (hp : evalPs rs l = some parts) [hr : PartRows 0 sz parts rows] (hm : parts.length = m) (hzl : zs.length = sz)
    (hb : m * sz ≤ 16777216) (hpos : 0 < sz) : NOp P n ds rs (.buildSlice T m l.toArray) (.cells rows.flatten.toArray e (0, 0)) (fun b => .slice (some ⟨b, 0, none⟩) m m) := fun o ho a w r => by
  have h1 := r.evalPs hp
  obtain ⟨z, hz1, hz2⟩ := hzv.zero w
  have hlen : ((Array.range (m * sz)).map (fun x => z.cells[x % z.cells.size]!)).size = m * sz := by simp
  obtain ⟨l0, hl0⟩ : ∃ l0 : List Value, (Array.range (m * sz)).map (fun x => z.cells[x % z.cells.size]!) = l0.toArray := ⟨_, (Array.toArray_toList).symm⟩
  have hll : l0.length = (0 + parts.length) * sz := by rw [hl0] at hlen; simpa [hm] using hlen
  have h2 := fill_rows hr hll
  simp only [Nat.zero_mul, List.take_zero, List.nil_append] at h2
  have h3 : ¬ (m * sz > 2 ^ 24) := by omega
  by_cases h4 : m * sz = 0
  · have hm0 : m = 0 := by rcases Nat.mul_eq_zero.1 h4 with h | h <;> omega
    subst hm0
    have hp0 : parts = [] := List.length_eq_zero_iff.1 hm
    subst hp0
    have hr0 : rows = [] := List.length_eq_zero_iff.1 hr.len
    subst hr0
    have e0 : ∀ f : Nat → Value, (Array.range 0).map f = #[] := fun f => by apply Array.ext'; simp
    simp [execOp, ho, h1, Instr.buildSlice, underlying, hu.under, hz.size, Instr.fill, newRow, e0]
  · simp [execOp, ho, h1, Instr.buildSlice, underlying, hu.under, hz.size, h3, h4, hz1, hl0, h2, newRow]

theorem part_rows_len {k : Nat} {parts : List (Nat × Value)} (hr : PartRows k sz parts rows) : ∀ r ∈ rows, r.length = sz := fun r h => by
  obtain ⟨i, hi⟩ := List.mem_iff_getElem?.1 h
  have hlt : i < parts.length := by rw [← hr.len]; exact (List.getElem?_eq_some_iff.1 hi).1
  obtain ⟨_, r', h1, _, h2⟩ := hr.cells i _ (List.getElem?_eq_getElem hlt)
  rw [hi] at h1; cases h1; exact h2


/-! ### append -/

class BY (P : Program) (T : TypeId) (n : outParam Nat) : Prop where
  bytes : ∀ w, ∃ i, (typeInfo T).run P w = .ok i w ∧ i.bytes = n

theorem run_firstCells {P : Program} {w : World} {m : Nat} (h : (oa = none ∧ m = 0) ∨ ∃ b, oa = some ⟨b, 0, none⟩ ∧ ∃ l : List Value, w.heap[b]? = some (.cells l.toArray T (0, 0)) ∧ m * sz ≤ l.length ∧ vs = l.take (m * sz)) (hv : oa = none → vs = []) {c : Nat} :
    (Builtin.firstCells sz m (.slice oa m c)).run P w = .ok vs.toArray w := by
  rcases h with ⟨e, hm⟩ | ⟨b, e, l, hb, hl, hvs⟩
  · subst e
    rw [hv rfl]; rfl
  · subst e
    simp only [Builtin.firstCells]
    refine run_loadCells (fun j hj => ?_) (by rw [hvs]; simp; omega)
    rw [cell_of_heap hb, hvs, List.getElem?_take_of_lt hj, Nat.zero_add]

theorem sl_first {w : World} {R : HP} {P : Program} (s : Sat w (sep (sl oa c T sz rows) R)) {c' : Nat} : (Builtin.firstCells sz rows.length (.slice oa rows.length c')).run P w = .ok rows.flatten.toArray w := by
  obtain ⟨g1, g2, g3⟩ := sl_open s
  have hfl := flatten_len g1
  rcases g3 with ⟨e, g3⟩ | ⟨b, sp, e1, e2, s'⟩
  · have hn : rows = [] := List.length_eq_zero_iff.1 (by omega)
    subst hn; subst e
    rfl
  · subst e1
    refine run_firstCells (T := T) (.inr ⟨b, rfl, _, own_at s', by simp [hfl], ?_⟩) (fun h => by cases h)
    rw [← hfl, List.take_append_of_le_length (Nat.le_refl _), List.take_length]

theorem all_flatten {f : Value → Bool} : ∀ {rows : List (List Value)}, rows.flatten.all f = true ↔ ∀ r ∈ rows, r.all f = true
  | [] => by simp
  | r :: rows => by simp [List.all_append]

theorem run_append_room {P : Program} {w w' : World} {T0 xT e' : TypeId} {n1 n2 : Nat} {src : Value} {news : Array Value} (hu : P.underlying T0 = some (.slice T)) (hux : P.underlying xT = some (.slice e'))
    (hz : ∀ w, (sizeOf T).run P w = .ok sz w) (hsrc : (Builtin.lenOf src).run P w = .ok n2 w) (hfirst : (Builtin.firstCells sz n2 src).run P w = .ok news w) (hroom : n1 + n2 ≤ c)
    (hst : ∀ a, oa = some a → (storeCells (a.add (n1 * sz)) news.toList).run P w = .ok () w') (hn : oa = none → w' = w) :
    (Builtin.append_ #[T0, xT] T0 #[.slice oa n1 c, src]).run P w = .ok (.slice oa (n1 + n2) c) w' := by
  have e1 : ∀ w, (underlying T0).run P w = .ok (.slice T) w := fun w => by simp [underlying, hu]
  have e2 : ∀ w, (underlying xT).run P w = .ok (.slice e') w := fun w => by simp [underlying, hux]
  cases oa with
  | none => rw [hn rfl]; simp [Builtin.append_, e1, e2, hz, hsrc, hfirst, hroom]
  | some a => simp [Builtin.append_, e1, e2, hz, hsrc, hfirst, hroom, hst a rfl]

theorem run_append_new {P : Program} {w : World} {T0 xT e' : TypeId} {n1 n2 by_ : Nat} {src z : Value} {olds news : Array Value} (hu : P.underlying T0 = some (.slice T)) (hux : P.underlying xT = some (.slice e'))
    (hz : ∀ w, (sizeOf T).run P w = .ok sz w) (hby : BY P T by_) (hzv : ∀ w, (zeroValue T).run P w = .ok z w) (hsrc : (Builtin.lenOf src).run P w = .ok n2 w)
    (hfirst : ∀ w', SameH w w' → (Builtin.firstCells sz n2 src).run P w' = .ok news w') (hold : ∀ w', SameH w w' → (Builtin.firstCells sz n1 (.slice oa n1 c)).run P w' = .ok olds w') (hroom : ¬ n1 + n2 ≤ c)
    (hb : (n1 + n2) * by_ ≤ 140737488355328) (hb0 : 0 < by_) :
    (Builtin.append_ #[T0, xT] T0 #[.slice oa n1 c, src]).run P w = .ok (.slice (some ⟨w.heap.size, 0, none⟩) (n1 + n2) (grownCap w (n1 + n2) c T))
        (w.drew.alloc (.cells (olds ++ news ++ Builtin.zeroCells z.cells (grownCap w (n1 + n2) c T - (n1 + n2))) T)) := by
  have e1 : ∀ w, (underlying T0).run P w = .ok (.slice T) w := fun w => by simp [underlying, hu]
  have e2 : ∀ w, (underlying xT).run P w = .ok (.slice e') w := fun w => by simp [underlying, hux]
  have e3 : ∀ w, ∃ i, (typeInfo T).run P w = .ok i w ∧ i.bytes = by_ := hby.bytes
  obtain ⟨i, e4, e5⟩ := hby.bytes w
  obtain ⟨i2, e6, e7⟩ := hby.bytes w.drew
  have hgrow := growslice_fits (old := c) (bytes := by_) (need := n1 + n2) (by omega) hb
  have h48 : ¬ (281474976710656 < Builtin.nextslicecap (n1 + n2) c * i.bytes) := by rw [e5]; omega
  have hb1 : ¬ i.bytes = 0 := by omega
  have f1 := hfirst w.drew .drew
  have f2 := hold w.drew .drew
  simp [Builtin.append_, e1, e2, hz, hsrc, hroom, e4, hb1, h48, Question.forced, e6, f1, f2, hzv, newRow, grownCap]

/-- Rows that are put behind an owned slice's. -/
theorem run_append {P : Program} {w : World} {R : HP} {T0 xT e' : TypeId} {rows2 : List (List Value)} {src z : Value} {by_ : Nat} (hu : P.underlying T0 = some (.slice T)) (hux : P.underlying xT = some (.slice e'))
    (hz : ∀ w, (sizeOf T).run P w = .ok sz w) (hby : BY P T by_) (hzv : ∀ w, (zeroValue T).run P w = .ok z w) (hzs : z.cells.size = sz)
    (hsrc : (Builtin.lenOf src).run P w = .ok rows2.length w) (hfirst : ∀ w', SameH w w' → (Builtin.firstCells sz rows2.length src).run P w' = .ok rows2.flatten.toArray w') (h2 : ∀ r ∈ rows2, r.length = sz) (h1c : ∀ r ∈ rows2, r.all Value.oneCell' = true)
    (hb : (rows.length + rows2.length) * by_ ≤ 140737488355328) (hb0 : 0 < by_) (s : Sat w (sep (sl oa c T sz rows) R)) :
    ∃ oa' c' w', (Builtin.append_ #[T0, xT] T0 #[.slice oa rows.length c, src]).run P w = .ok (.slice oa' (rows.length + rows2.length) c') w' ∧ Sat w' (sep (sl oa' c' T sz (rows ++ rows2)) R) := by
  obtain ⟨g1, g2, g3⟩ := sl_open s
  have hfl := flatten_len g1
  have hfl2 := flatten_len h2
  by_cases hroom : rows.length + rows2.length ≤ c
  · rcases g3 with ⟨e, g3⟩ | ⟨b, sp, e1, e2, s'⟩
    · have hn : rows = [] := List.length_eq_zero_iff.1 (by omega)
      have hn2 : rows2 = [] := List.length_eq_zero_iff.1 (by omega)
      subst hn; subst hn2; subst e
      exact ⟨none, c, w, run_append_room hu hux hz hsrc (hfirst w ⟨rfl, rfl⟩) hroom (fun _ h => by cases h) (fun _ => rfl), by simpa using s⟩
    · subst e1
      have hw := own_at s'
      have hrun := run_storeCells (P := P) (b := b) (o := rows.length * sz) rows2.flatten 0 w _ hw (by
        simp only [List.length_append, hfl, e2, hfl2, Nat.add_zero]
        have : rows2.length * sz ≤ (c - rows.length) * sz := Nat.mul_le_mul_right _ (by omega)
        omega) (all_flatten.2 h1c)
      simp only [Nat.add_zero] at hrun
      refine ⟨some ⟨b, 0, none⟩, c, _, run_append_room hu hux hz hsrc (hfirst w ⟨rfl, rfl⟩) hroom (fun a h => by cases h; rw [add_none, Nat.zero_add]; exact hrun) (fun h => by cases h), ?_⟩
      refine sl_shut (sp := sp.drop (rows2.length * sz)) (fun r hr => (List.mem_append.1 hr).elim (g1 r) (h2 r)) (by simpa using hroom) ?_ ?_
      · simp only [List.length_drop, e2, List.length_append]
        rw [← Nat.sub_mul]; congr 1; omega
      · refine own_set s' ?_
        have e3 : (rows ++ rows2).flatten ++ sp.drop (rows2.length * sz) = (rows.flatten ++ sp).take (rows.length * sz) ++ rows2.flatten ++ (rows.flatten ++ sp).drop (rows.length * sz + rows2.flatten.length) := by
          rw [← hfl, List.take_append_of_le_length (Nat.le_refl _), List.take_length, List.drop_length_add_append, hfl2]
          simp
        rw [e3]
        exact setB_at hw
  · have hrun := run_append_new (oa := oa) (c := c) hu hux hz hby hzv hsrc hfirst (fun w' hw' => sl_first (s.heap hw')) hroom hb hb0
    refine ⟨_, _, _, hrun, ?_⟩
    have hnc : rows.length + rows2.length ≤ grownCap w (rows.length + rows2.length) c T := by simp only [grownCap, Question.cut]; omega
    have hlen : ((Builtin.zeroCells z.cells (grownCap w (rows.length + rows2.length) c T - (rows.length + rows2.length))).toList).length = (grownCap w (rows.length + rows2.length) c T - (rows.length + rows2.length)) * sz := by
      simp [Builtin.zeroCells, hzs]
    refine sl_shut (sp := (Builtin.zeroCells z.cells (grownCap w (rows.length + rows2.length) c T - (rows.length + rows2.length))).toList) (fun r hr => (List.mem_append.1 hr).elim (g1 r) (h2 r)) (by simpa using hnc) (by simpa using hlen) ?_
    have e4 : rows.flatten.toArray ++ rows2.flatten.toArray ++ Builtin.zeroCells z.cells (grownCap w (rows.length + rows2.length) c T - (rows.length + rows2.length)) =
        ((rows ++ rows2).flatten ++ (Builtin.zeroCells z.cells (grownCap w (rows.length + rows2.length) c T - (rows.length + rows2.length))).toList).toArray := by
      apply Array.ext'; simp
    rw [e4]
    have hR : Sat w R := s.ent .drop
    exact new_at (w := w.drew) (hR.heap .drew) .alloc

/-- Where 'x' is an owned slice's value and 'y' another one's that is there, the second one's rows are put behind the first one's. -/
theorem J_app {T0 xT e' : TypeId} {by_ m m2 c2 : Nat} {oa2 : Option Addr} {rows2 : List (List Value)} {zs : List Value} {H1 : List HP} [hu : UT P T0 (.slice T)] [hux : UT P xT (.slice e')] [hz : SZ P T sz] [hby : BY P T by_] [hzv : ZV P T zs] (hzl : zs.length = sz)
    (hx : evalO rs x = some (.slice oa m c)) (hy : evalO rs y = some (.slice oa2 m2 c2)) (h1 : Sp H (sl oa c T sz rows) H1) (h2 : ∀ w R, Sat w (sep R (stars H1)) → (∀ r ∈ rows2, r.length = sz) ∧ (Builtin.firstCells sz rows2.length (.slice oa2 rows2.length c2)).run P w = .ok rows2.flatten.toArray w)
    (hm : m = rows.length) (hm2 : m2 = rows2.length) (h1c : ∀ r ∈ rows2, r.all Value.oneCell' = true) (hb : (rows.length + rows2.length) * by_ ≤ 140737488355328) (hb0 : 0 < by_) (hd : d < n)
    (h : ∀ oa' c', J n ds ((d, .slice oa' (rows.length + rows2.length) c') :: rs) (sl oa' c' T sz (rows ++ rows2) :: H1) (wpListIn (Fc ρ) 0 P ops Q rest)) :
    J n ds rs H (wpListIn (Fc ρ) 0 P ops Q (⟨some d, .call ⟨.builtin .append, #[x, y], #[T0, xT]⟩, T0, ps, af, none⟩ :: rest)) := by
  intro a w r s
  have s1 := s.imp h1.out
  subst hm; subst hm2
  obtain ⟨g1, g2⟩ := h2 w _ s1
  have hzr : ∀ w, ∃ z, (zeroValue T).run P w = .ok z w ∧ z.cells = zs.toArray := hzv.zero
  obtain ⟨z, hz1, hz2⟩ := hzr w
  have hz3 : ∀ w', (zeroValue T).run P w' = .ok z w' := by
    intro w'
    unfold zeroValue typeInfo at hz1 ⊢
    simp only [Sem.run_bind, run_program, Result.andThen_ok] at hz1 ⊢
    cases hi : P.info? T with
    | none => simp [hi] at hz1
    | some i =>
      simp only [hi, Sem.run_pure, Result.andThen_ok] at hz1 ⊢
      cases hzz : i.zero with
      | none => simp [hzz] at hz1
      | some v => simp only [hzz, Sem.run_pure] at hz1 ⊢; cases hz1; rfl
  obtain ⟨oa', c', w', hrun, s'⟩ := run_append (src := .slice oa2 rows2.length c2) hu.under hux.under hz.size hby hz3 (by rw [hz2]; simpa using hzl) (by simp [Builtin.lenOf])
    (fun w'' hw'' => (h2 w'' _ (s1.heap hw'')).2) g1 h1c hb hb0 s1
  unfold wpListIn
  rw [if_pos (by simp [Region.wanted])]
  have e1 : (execOp a.eval ⟨some d, .call ⟨.builtin .append, #[x, y], #[T0, xT]⟩, T0, ps, af, none⟩).run P w = .ok (.value (.slice oa' (rows.length + rows2.length) c')) w' := by
    simp [execOp, resolve, invoke, builtin, r.eval hx, r.eval hy, hrun]
  exact op_wp e1 (by simp) (h oa' c' _ _ (r.put hd _) s')

end
end Go.Ws
