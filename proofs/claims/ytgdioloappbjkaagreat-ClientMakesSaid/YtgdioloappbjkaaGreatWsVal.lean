/- What only reads, shown right. -/
import Derived.Test.YtgdioloappbjkaaGreatWsRep
set_option linter.unusedSectionVars false
set_option linter.unusedVariables false
set_option linter.unusedSimpArgs false
namespace Go.Ws
variable [A : Arrs]

theorem pureRun_ok {P : Program} {α : Type} {s : Sem α} {a : α} (h : pureRun P s = some a) (w : World) : s.run P w = .ok a w := by
  induction s with
  | pure b => simp [pureRun] at h; subst h; rfl
  | program k ih => exact ih P (by simpa [pureRun] using h)
  | _ => simp [pureRun] at h

section
variable {P : Program} {T : TypeId}

theorem aggT_ok {b : Bool} (h : aggT P T = some b) (w : World) : (isAgg T).run P w = .ok b w := by
  unfold aggT at h
  cases hu : P.underlying T with
  | none => simp [hu] at h
  | some d => cases d <;> simp [hu] at h <;> subst h <;> simp [isAgg, underlying, hu]

theorem sizeT_ok {k : Nat} (h : sizeT P T = some k) (w : World) : (sizeOf T).run P w = .ok k w := by
  unfold sizeT at h
  cases hu : P.info? T with
  | none => simp [hu] at h
  | some i => simp [hu] at h; subst h; simp [sizeOf, typeInfo, hu]

theorem bytesT_ok {k : Nat} (h : bytesT P T = some k) : ∃ i, P.info? T = some i ∧ i.bytes = k := by
  unfold bytesT at h
  cases hu : P.info? T with
  | none => simp [hu] at h
  | some i => simp [hu] at h; exact ⟨i, rfl, h⟩

theorem zeroV_ok {z : Value} (h : zeroV P T = some z) (w : World) : (zeroValue T).run P w = .ok z w := by
  unfold zeroV at h
  cases hu : P.info? T with
  | none => simp [hu] at h
  | some i => simp [hu] at h; simp [zeroValue, typeInfo, hu, h]

theorem zeroT_ok {l : List SV} (h : zeroT P T = some l) : ∃ z, (∀ w, (zeroValue T).run P w = .ok z w) ∧ l = z.cells.toList.map .v := by
  unfold zeroT at h
  cases hu : P.info? T with
  | none => simp [hu] at h
  | some i =>
    cases hz : i.zero with
    | none => simp [hu, hz] at h
    | some z => simp [hu, hz] at h; exact ⟨z, fun w => by simp [zeroValue, typeInfo, hu, hz], h.symm⟩

theorem sliceElem_ok {e : TypeId} (h : sliceElem P T = some e) : P.underlying T = some (.slice e) := by
  unfold sliceElem at h
  split at h <;> simp_all

theorem arrayElem_ok {n e : Nat} (h : arrayElem P T = some (n, e)) : P.underlying T = some (.array n e) := by
  unfold arrayElem at h
  split at h <;> simp_all

theorem mapElem_ok {k e : Nat} (h : mapElem P T = some (k, e)) : P.underlying T = some (.map k e) := by
  unfold mapElem at h
  split at h <;> simp_all

theorem fieldT_ok {i : Nat} {f : Field} (h : fieldT P T i = some f) : ∃ fs, P.underlying T = some (.struct fs) ∧ fs[i]? = some f := by
  unfold fieldT at h
  split at h
  · rename_i fs hu; exact ⟨fs, hu, by simpa using h⟩
  · cases h
end

def RegsRel (ι : Env) (rg : Rg) (rs : List (Nat × Value)) : Prop := ∀ t sv, lookS rg t = some sv → ∃ v, den ι sv = some v ∧ lookR rs t = some v

section
variable {P : Program} {n : Nat} {ds : List Deferred} {ι : Env} {rg : Rg} {rs : List (Nat × Value)} {t : Tree} {x y : Operand} {T : TypeId}

theorem evalS_ok (R : RegsRel ι rg rs) {sv : SV} (h : evalS rg x = some sv) : ∃ v, den ι sv = some v ∧ evalO rs x = some v := by
  cases x with
  | tmp t => exact R t sv h
  | const v => simp [evalS] at h; subst h; exact ⟨v, den_norm v, rfl⟩
  | global g => simp [evalS] at h; subst h; exact ⟨_, rfl, rfl⟩
  | func f => simp [evalS] at h; subst h; exact ⟨.func (.func f) #[] #[], by simp [den, dens], rfl⟩

theorem evalSs_ok (R : RegsRel ι rg rs) : ∀ {l : List Operand} {m : List SV}, evalSs rg l = some m → ∃ vs, dens ι m = some vs ∧ evalOs rs l = some vs
  | [], m, h => by simp [evalSs] at h; subst h; exact ⟨[], rfl, rfl⟩
  | x :: l, m, h => by
    simp only [evalSs] at h
    cases h1 : evalS rg x with
    | none => simp [h1] at h
    | some v =>
      cases h2 : evalSs rg l with
      | none => simp [h1, h2] at h
      | some k =>
        simp [h1, h2] at h; subst h
        obtain ⟨a, a1, a2⟩ := evalS_ok R h1
        obtain ⟨b, b1, b2⟩ := evalSs_ok R h2
        exact ⟨a :: b, dens_cons.2 ⟨a, b, a1, b1, rfl⟩, by simp [evalOs, a2, b2]⟩

def denP (ι : Env) : List (Nat × SV) → Option (List (Nat × Value))
  | [] => some []
  | (i, x) :: l => match den ι x, denP ι l with
    | some v, some m => some ((i, v) :: m)
    | _, _ => none

theorem denP_cons {i : Nat} {x : SV} {l : List (Nat × SV)} {m : List (Nat × Value)} : denP ι ((i, x) :: l) = some m ↔ ∃ v k, den ι x = some v ∧ denP ι l = some k ∧ m = (i, v) :: k := by
  simp only [denP]
  cases den ι x <;> cases denP ι l <;> simp [eq_comm]

theorem evalPS_ok (R : RegsRel ι rg rs) : ∀ {l : List (Nat × Operand)} {m : List (Nat × SV)}, evalPS rg l = some m → ∃ vs, denP ι m = some vs ∧ evalPs rs l = some vs
  | [], m, h => by simp [evalPS] at h; subst h; exact ⟨[], rfl, rfl⟩
  | (i, x) :: l, m, h => by
    simp only [evalPS] at h
    cases h1 : evalS rg x with
    | none => simp [h1] at h
    | some v =>
      cases h2 : evalPS rg l with
      | none => simp [h1, h2] at h
      | some k =>
        simp [h1, h2] at h; subst h
        obtain ⟨a, a1, a2⟩ := evalS_ok R h1
        obtain ⟨b, b1, b2⟩ := evalPS_ok R h2
        exact ⟨(i, a) :: b, denP_cons.2 ⟨a, b, a1, b1, rfl⟩, by simp [evalPs, a2, b2]⟩

/-! ### Facts -/

def FactOK (ι : Env) (t : Tree) (w : World) : Fact → Prop
  | .cells b o l => ∃ p vs, ι b = some p ∧ dens ι l = some vs ∧ Cells p.1 o vs w
  | .no => Sat w (stars [rep ι t])
  | .need b => b = true
  | .ro id => ∀ d, A.get id = some d → w.heap[d.block]? = some d.obj

def FactsOK (ι : Env) (t : Tree) (fs : List Fact) (w : World) : Prop := ∀ f ∈ fs, FactOK ι t w f

/-- What is claimed of an operation that reads. -/
def VOK (P : Program) (n : Nat) (ds : List Deferred) (ι : Env) (rs : List (Nat × Value)) (t : Tree) (op : Op) (r : SV × List Fact) : Prop :=
  ∃ v, den ι r.1 = some v ∧ VOp P n ds rs [rep ι t] (FactsOK ι t r.2) op v

theorem VOK.pure {op : Op} {sv : SV} {v : Value} (hd : den ι sv = some v) (h : ∀ (o : Oper), o.op = op → ∀ a w, Regs n ds rs a → (execOp a.eval o).run P w = .ok (.value v) w) :
    VOK P n ds ι rs t op (sv, []) := ⟨v, hd, fun _ _ _ hf => by simp at hf, fun o ho a w r _ => h o ho a w r⟩

/-- One whose fact is the heap as a whole. -/
theorem VOK.all {op : Op} {sv : SV} {v : Value} (hd : den ι sv = some v) (h : ∀ (o : Oper), o.op = op → ∀ a w, Regs n ds rs a → Sat w (stars [rep ι t]) → (execOp a.eval o).run P w = .ok (.value v) w) :
    VOK P n ds ι rs t op (sv, [.no]) := ⟨v, hd, fun w s f hf => by simp at hf; subst hf; exact s, fun o ho a w r hf => h o ho a w r (hf .no (by simp))⟩

theorem cs_obj {c : Ch} {cs : List SV} {cap : Nat} {o : Obj} (h : c.cs? = some cs) (ho : ObjIs ι cap c o) : ∃ vs sp T, dens ι cs = some vs ∧ o = .cells (vs ++ sp).toArray T (0, 0) := by
  cases c with
  | cells T cs' => simp [Ch.cs?] at h; subst h; obtain ⟨vs, h1, h2⟩ := ho; exact ⟨vs, [], T, h1, by simpa using h2⟩
  | more T sz cs' => simp [Ch.cs?] at h; subst h; obtain ⟨vs, sp, h1, h2, _⟩ := ho; exact ⟨vs, sp, T, h1, h2⟩
  | map es c => simp [Ch.cs?] at h
  | iter a b c d => simp [Ch.cs?] at h
  | dfr l => simp [Ch.cs?] at h
  | loop => simp [Ch.cs?] at h

/-- Cells of the heap of named blocks. -/
theorem rep_cells {w : World} (s : Sat w (stars [rep ι t])) {b : Nat} {cs : List SV} (h : cellsOf t b = some cs) :
    ∃ p vs, ι b = some p ∧ dens ι cs = some vs ∧ ∀ o k, Cells p.1 o ((vs.drop o).take k) w := by
  unfold cellsOf at h
  cases hb : t.get b with
  | none => simp [hb] at h
  | some c =>
    simp only [hb] at h
    obtain ⟨p, ob, h1, h2, h3⟩ := rep_get s hb
    obtain ⟨vs, sp, T', h4, h5⟩ := cs_obj h h2
    subst h5
    refine ⟨p, vs, h1, h4, fun o k j hj => ?_⟩
    simp only [List.length_take, List.length_drop] at hj
    rw [cell_of_heap h3, List.getElem?_append_left (by omega), List.getElem?_take_of_lt (by omega), List.getElem?_drop]

/-- What cells come to, by a type. -/
theorem cellsAt_ok {cs l : List SV} {o : Nat} {v : SV} {vs : List Value} (hd : dens ι cs = some vs) (h : cellsAt P T cs o = some (v, l)) :
    ∃ u us, den ι v = some u ∧ dens ι l = some us ∧ us = (vs.drop o).take us.length ∧
      ((aggT P T = some false ∧ us = [u] ∧ vs[o]? = some u) ∨ (aggT P T = some true ∧ sizeT P T = some us.length ∧ u = .agg us.toArray)) := by
  unfold cellsAt at h
  cases ha : aggT P T with
  | none => simp [ha] at h
  | some b =>
    cases b with
    | false =>
      simp only [ha] at h
      cases hn : nthS cs o with
      | none => simp [hn] at h
      | some sv =>
        simp only [hn, Option.some.injEq, Prod.mk.injEq] at h
        obtain ⟨e1, e2⟩ := h; subst e1 e2
        obtain ⟨u, h1, h2⟩ := nthS_den hd hn
        have hlt := (List.getElem?_eq_some_iff.1 h2).1
        refine ⟨u, [u], h1, dens_cons.2 ⟨u, [], h1, rfl, rfl⟩, ?_, .inl ⟨rfl, rfl, h2⟩⟩
        rw [List.drop_eq_getElem_cons hlt]
        simp [(List.getElem?_eq_some_iff.1 h2).2]
    | true =>
      simp only [ha] at h
      cases hk : sizeT P T with
      | none => simp [hk] at h
      | some k =>
        simp only [hk] at h
        cases ht : takeS k (dropS o cs) with
        | none => simp [ht] at h
        | some m =>
          simp only [ht, Option.some.injEq, Prod.mk.injEq] at h
          obtain ⟨e1, e2⟩ := h; subst e1 e2
          obtain ⟨h1, h2, h3⟩ := takeS_den (dropS_den hd) ht
          have hl : ((vs.drop o).take k).length = k := by simp at h2 ⊢; omega
          exact ⟨.agg ((vs.drop o).take k).toArray, _, by simp [den, h1], h1, by rw [hl], .inr ⟨rfl, by rw [hl], rfl⟩⟩

/-- What is in the heap stands for something. -/
def HD (ι : Env) (t : Tree) : Prop := ∀ b c, t.get b = some c → ∃ p o, ι b = some p ∧ ObjIs ι p.2 c o

theorem rep_HD {w : World} (s : Sat w (stars [rep ι t])) : HD ι t := fun b c h => let ⟨p, o, h1, h2, _⟩ := rep_get s h; ⟨p, o, h1, h2⟩

theorem HD.cells (hd : HD ι t) {b : Nat} {cs : List SV} (h : cellsOf t b = some cs) : ∃ p vs, ι b = some p ∧ dens ι cs = some vs := by
  unfold cellsOf at h
  cases hb : t.get b with
  | none => simp [hb] at h
  | some c =>
    simp only [hb] at h
    obtain ⟨p, o, h1, h2⟩ := hd b c hb
    obtain ⟨vs, sp, T', h4, h5⟩ := cs_obj h h2
    exact ⟨p, vs, h1, h4⟩

theorem vMove_ok {op : Op} (hop : op = .move x ∨ op = .assign x) (R : RegsRel ι rg rs) {r : SV × List Fact} (h : vMove rg x = some r) : VOK P n ds ι rs t op r := by
  unfold vMove at h
  cases h1 : evalS rg x with
  | none => simp [h1] at h
  | some sv =>
    simp [h1] at h; subst h
    obtain ⟨v, h2, h3⟩ := evalS_ok R h1
    rcases hop with rfl | rfl
    · exact .pure h2 fun o ho a w r => by simp [execOp, ho, r.eval h3]
    · exact .pure h2 fun o ho a w r => by simp [execOp, ho, r.eval h3]

theorem boolOf_den {x : SV} {b : Bool} {v : Value} (h : boolOf x = some b) (d : den ι x = some v) : v = .bool b := by
  unfold boolOf at h
  split at h <;> simp at h <;> subst h <;> simp [den] at d <;> exact d.symm

theorem vPick_ok {c a b : Operand} (R : RegsRel ι rg rs) {r : SV × List Fact} (h : vPick rg c a b = some r) : VOK P n ds ι rs t (.pick c a b) r := by
  unfold vPick at h
  split at h
  · rename_i hc
    obtain ⟨v, h2, h3⟩ := evalS_ok R hc
    simp [den] at h2; subst h2
    unfold vMove at h
    cases h1 : evalS rg a with
    | none => simp [h1] at h
    | some sv =>
      simp [h1] at h; subst h
      obtain ⟨u, g2, g3⟩ := evalS_ok R h1
      exact .pure g2 fun o ho a w r => by simp [execOp, ho, r.eval h3, r.eval g3, asBool]
  · rename_i hc
    obtain ⟨v, h2, h3⟩ := evalS_ok R hc
    simp [den] at h2; subst h2
    unfold vMove at h
    cases h1 : evalS rg b with
    | none => simp [h1] at h
    | some sv =>
      simp [h1] at h; subst h
      obtain ⟨u, g2, g3⟩ := evalS_ok R h1
      exact .pure g2 fun o ho a w r => by simp [execOp, ho, r.eval h3, r.eval g3, asBool]
  · rename_i t' hc
    obtain ⟨v, h2, h3⟩ := evalS_ok R hc
    simp [den] at h2; subst h2
    split at h
    rotate_left
    · cases h
    rename_i x y hx hy
    split at h
    rotate_left
    · cases h
    rename_i p q hp hq
    simp only [Option.some.injEq] at h; subst h
    obtain ⟨u, b2, b3⟩ := evalS_ok R hx
    obtain ⟨u', c2, c3⟩ := evalS_ok R hy
    have e1 := boolOf_den hp b2
    have e2 := boolOf_den hq c2
    subst e1 e2
    refine .pure (v := .bool (bif t' then p else q)) rfl fun o ho a w r => ?_
    cases t' <;> simp [execOp, ho, r.eval h3, r.eval b3, r.eval c3, asBool]
  · cases h

/-- A value that is a place in an array. -/
theorem den_aptr {id : Nat} {i : Int} {j : Nat} {v : Value} (h : den ι (.aptr id i j) = some v) : ∃ d, A.get id = some d ∧ (0 ≤ i ∧ i < d.n) ∧ v = ptr d.block (d.off + i.toNat * d.ks.length + j) := by
  simp only [den] at h
  split at h
  · rename_i d hd
    split at h
    · rename_i hi
      simp only [Option.some.injEq] at h
      exact ⟨d, hd, hi, h.symm⟩
    · cases h
  · cases h

theorem dropK_get : ∀ (j : Nat) (ks : List IntKind) (x : Nat), (dropK j ks)[x]? = ks[j + x]?
  | 0, ks, x => by simp [dropK]
  | j + 1, [], x => by simp [dropK]
  | j + 1, k :: ks, x => by rw [dropK, dropK_get j ks x, show j + 1 + x = (j + x) + 1 from by omega]; rfl

theorem takeK_get : ∀ {n : Nat} {ks l : List IntKind}, takeK n ks = some l → l.length = n ∧ ∀ x, x < n → l[x]? = ks[x]?
  | 0, ks, l, h => by simp [takeK] at h; subst h; exact ⟨rfl, fun x hx => by omega⟩
  | n + 1, [], l, h => by simp [takeK] at h
  | n + 1, k :: ks, l, h => by
    simp only [takeK] at h
    split at h
    rotate_left
    · cases h
    rename_i m hm
    simp only [Option.some.injEq] at h; subst h
    obtain ⟨h1, h2⟩ := takeK_get hm
    refine ⟨by simp [h1], fun x hx => ?_⟩
    cases x with
    | zero => rfl
    | succ x => simpa using h2 x (by omega)

def rowV (d : ArrD) (i : Nat) : Nat → List IntKind → List Value
  | _, [] => []
  | j, k :: ks => .int k (d.el i j) :: rowV d i (j + 1) ks

theorem rowS_den (d : ArrD) (i : Nat) : ∀ (j : Nat) (ks : List IntKind), dens ι (rowS d i j ks) = some (rowV d i j ks)
  | _, [] => rfl
  | j, k :: ks => dens_cons.2 ⟨_, _, rfl, rowS_den d i (j + 1) ks, rfl⟩

theorem rowV_len (d : ArrD) (i : Nat) : ∀ (j : Nat) (ks : List IntKind), (rowV d i j ks).length = ks.length
  | _, [] => rfl
  | j, k :: ks => by simp [rowV, rowV_len d i (j + 1) ks]

theorem rowV_get (d : ArrD) (i : Nat) : ∀ (j : Nat) (ks : List IntKind) (x : Nat) (k : IntKind), ks[x]? = some k → (rowV d i j ks)[x]? = some (.int k (d.el i (j + x)))
  | _, [], _, _, h => by simp at h
  | j, k :: ks, 0, k', h => by simp at h; subst h; rfl
  | j, k :: ks, x + 1, k', h => by
    have := rowV_get d i (j + 1) ks x k' (by simpa using h)
    rw [show j + 1 + x = j + (x + 1) from by omega] at this
    simpa [rowV] using this

/-- What stands at a place of an array. -/
theorem arr_cell {w : World} {d : ArrD} (hw : w.heap[d.block]? = some d.obj) {i j : Nat} {k : IntKind} (hi : i < d.n) (hk : d.ks[j]? = some k) : w.cell? ⟨d.block, d.off + i * d.ks.length + j, none⟩ = some (.int k (d.el i j)) := by
  obtain ⟨cs, T, z, ho, hc⟩ := d.ok
  rw [ho] at hw
  simp [World.cell?, hw, hc i j k hi hk]

theorem loadA_ok {d : ArrD} {i : Int} {j : Nat} {v : SV} (h : loadA P T d i j = some v) (hi : 0 ≤ i ∧ i < d.n) : ∃ u, den ι v = some u ∧ ∀ w, w.heap[d.block]? = some d.obj → (loadVar T ⟨d.block, d.off + i.toNat * d.ks.length + j, none⟩).run P w = .ok u w := by
  have hi' : i.toNat < d.n := by omega
  unfold loadA at h
  cases ha : aggT P T with
  | none => simp [ha] at h
  | some b =>
    cases b with
    | false =>
      simp only [ha] at h
      split at h
      rotate_left
      · cases h
      rename_i k l hk
      simp only [Option.some.injEq] at h; subst h
      have hk' : d.ks[j]? = some k := by
        have := dropK_get j d.ks 0
        rw [hk] at this
        simpa using this.symm
      refine ⟨_, rfl, fun w hw => ?_⟩
      have hc := arr_cell hw hi' hk'
      simp [loadVar, aggT_ok ha, hc]
    | true =>
      simp only [ha] at h
      split at h
      rotate_left
      · cases h
      rename_i m hm
      split at h
      rotate_left
      · cases h
      rename_i l hl
      simp only [Option.some.injEq] at h; subst h
      obtain ⟨h1, h2⟩ := takeK_get hl
      refine ⟨.agg (rowV d i.toNat j l).toArray, by simp [den, rowS_den], fun w hw => ?_⟩
      have hlen : (rowV d i.toNat j l).length = m := by rw [rowV_len, h1]
      have hload : (loadCells ⟨d.block, d.off + i.toNat * d.ks.length + j, none⟩ m).run P w = .ok (rowV d i.toNat j l).toArray w := by
        refine run_loadCells (fun x hx => ?_) hlen
        obtain ⟨k, hk⟩ : ∃ k, l[x]? = some k := ⟨l[x]'(by omega), List.getElem?_eq_getElem (by omega)⟩
        have hk2 : d.ks[j + x]? = some k := by rw [← dropK_get, ← h2 x hx, hk]
        rw [rowV_get d i.toNat j l x k hk]
        have := arr_cell hw hi' hk2
        rwa [show d.off + i.toNat * d.ks.length + (j + x) = d.off + i.toNat * d.ks.length + j + x from by omega] at this
      simp [loadVar, aggT_ok ha, sizeT_ok hm, hload]

theorem vLoad_ok (hd : HD ι t) (R : RegsRel ι rg rs) {r : SV × List Fact} (h : vLoad P rg t T x = some r) : VOK P n ds ι rs t (.load T x) r := by
  unfold vLoad at h
  split at h
  · rename_i id i j hx
    obtain ⟨xv, h2, h3⟩ := evalS_ok R hx
    obtain ⟨d, hd1, hi, rfl⟩ := den_aptr h2
    simp only [hd1] at h
    split at h
    rotate_left
    · cases h
    rename_i v hv
    simp only [Option.some.injEq] at h; subst h
    obtain ⟨u, g1, g2⟩ := loadA_ok (ι := ι) hv hi
    refine ⟨u, g1, fun w s f hf => ?_, fun op hop a w rg hf => ?_⟩
    · simp at hf; subst hf
      intro d' hd'
      exact rep_arr s hd'
    · have hw := hf _ (List.mem_singleton.2 rfl) d hd1
      simp [execOp, hop, rg.eval h3, Instr.loadAt, Instr.sureAddr, g2 w hw]
  rotate_left
  · cases h
  rename_i b o hx
  obtain ⟨xv, h2, h3⟩ := evalS_ok R hx
  split at h
  rotate_left
  · cases h
  rename_i cs hc
  split at h
  rotate_left
  · cases h
  rename_i v l hv
  simp only [Option.some.injEq] at h; subst h
  obtain ⟨p, vs, hb, hcs⟩ := hd.cells hc
  simp only [den, hb, Option.some.injEq] at h2
  subst h2
  obtain ⟨u, us, g1, g2, g3, g5⟩ := cellsAt_ok hcs hv
  refine ⟨u, g1, fun w s f hf => ?_, fun op hop a w rg hf => ?_⟩
  · simp at hf; subst hf
    obtain ⟨p', vs', e1, e2, e3⟩ := rep_cells s hc
    rw [hb] at e1; cases e1
    rw [hcs] at e2; cases e2
    exact ⟨p, us, hb, g2, by have := e3 o us.length; rwa [← g3] at this⟩
  · obtain ⟨p', us', e1, e2, e3⟩ := hf _ (List.mem_singleton.2 rfl)
    rw [hb] at e1; cases e1
    rw [g2] at e2; cases e2
    rcases g5 with ⟨a1, a2, a3⟩ | ⟨a1, a2, a3⟩
    · subst a2
      have hc0 := e3 0 (by simp)
      simp only [Nat.add_zero, List.getElem?_cons_zero] at hc0
      simp [execOp, hop, rg.eval h3, Instr.loadAt, Instr.sureAddr, loadVar, aggT_ok a1, hc0]
    · subst a3
      have hl : (loadCells ⟨p.1, o, none⟩ us.length).run P w = .ok us.toArray w := run_loadCells (fun j hj => e3 j hj) rfl
      simp [execOp, hop, rg.eval h3, Instr.loadAt, Instr.sureAddr, loadVar, aggT_ok a1, sizeT_ok a2, hl]

/-- A value that is one of a block. -/
theorem den_ptr {b o : Nat} {v : Value} (h : den ι (.ptr b o) = some v) : ∃ p, ι b = some p ∧ v = ptr p.1 o := by
  simp only [den] at h
  cases hb : ι b with
  | none => simp [hb] at h
  | some p => simp [hb] at h; exact ⟨p, rfl, h.symm⟩

theorem den_sl {b o k : Nat} {c : Cp} {v : Value} (h : den ι (.sl b o k c) = some v) : ∃ p, ι b = some p ∧ v = .slice (some ⟨p.1, o, none⟩) k (capD c p.2) := by
  simp only [den] at h
  cases hb : ι b with
  | none => simp [hb] at h
  | some p => simp [hb] at h; exact ⟨p, rfl, h.symm⟩

theorem den_se {b o o' r : Nat} {v : Value} (h : den ι (.se b o o' r) = some v) : ∃ p, ι b = some p ∧ v = .slice (some ⟨p.1, if p.2 = r then o else o', none⟩) 0 (p.2 - r) := by
  simp only [den] at h
  cases hb : ι b with
  | none => simp [hb] at h
  | some p => simp [hb] at h; exact ⟨p, rfl, h.symm⟩

theorem den_fn {f : Fn} {a c : List SV} {v : Value} (h : den ι (.fn f a c) = some v) : ∃ x y, dens ι a = some x ∧ dens ι c = some y ∧ v = .func f x.toArray y.toArray := by
  simp only [den] at h
  cases ha : dens ι a with
  | none => simp [ha] at h
  | some x =>
    cases hc : dens ι c with
    | none => simp [ha, hc] at h
    | some y => simp [ha, hc] at h; exact ⟨x, y, rfl, rfl, h.symm⟩

theorem den_agg {l : List SV} {v : Value} (h : den ι (.agg l) = some v) : ∃ vs, dens ι l = some vs ∧ v = .agg vs.toArray := by
  simp only [den] at h
  cases ha : dens ι l with
  | none => simp [ha] at h
  | some x => simp [ha] at h; exact ⟨x, rfl, h.symm⟩

theorem den_tup {l : List SV} {v : Value} (h : den ι (.tup l) = some v) : ∃ vs, dens ι l = some vs ∧ v = .tuple vs.toArray := by
  simp only [den] at h
  cases ha : dens ι l with
  | none => simp [ha] at h
  | some x => simp [ha] at h; exact ⟨x, rfl, h.symm⟩

theorem den_ifc {T : TypeId} {x : SV} {v : Value} (h : den ι (.ifc T x) = some v) : ∃ u, den ι x = some u ∧ v = .iface T u := by
  simp only [den] at h
  cases ha : den ι x with
  | none => simp [ha] at h
  | some x => simp [ha] at h; exact ⟨x, rfl, h.symm⟩

theorem den_mp {b : Nat} {v : Value} (h : den ι (.mp b) = some v) : ∃ p, ι b = some p ∧ v = .map (some p.1) := by
  simp only [den] at h
  cases hb : ι b with
  | none => simp [hb] at h
  | some p => simp [hb] at h; exact ⟨p, rfl, h.symm⟩

theorem den_v {x v : Value} (h : den ι (.v x) = some v) : v = x := by simpa [den] using h.symm

theorem vNil_ok (R : RegsRel ι rg rs) {r : SV × List Fact} (h : vNil rg x = some r) : VOK P n ds ι rs t (.nilCheck x) r := by
  unfold vNil at h
  split at h
  · rename_i b o hx
    simp only [Option.some.injEq] at h; subst h
    obtain ⟨xv, h2, h3⟩ := evalS_ok R hx
    have h2' := h2
    obtain ⟨p, hb, rfl⟩ := den_ptr h2'
    exact .pure h2 fun o ho a w r => by simp [execOp, ho, r.eval h3]
  · rename_i f a c hx
    simp only [Option.some.injEq] at h; subst h
    obtain ⟨xv, h2, h3⟩ := evalS_ok R hx
    have h2' := h2
    obtain ⟨u, v, _, _, rfl⟩ := den_fn h2'
    exact .pure h2 fun o ho a w r => by simp [execOp, ho, r.eval h3]
  · rename_i b hx
    simp only [Option.some.injEq] at h; subst h
    obtain ⟨xv, h2, h3⟩ := evalS_ok R hx
    have h2' := h2
    simp only [den] at h2'
    split at h2' <;> simp at h2'
    subst h2'
    exact .pure h2 fun o ho a w r => by simp [execOp, ho, r.eval h3]
  · rename_i id i j hx
    simp only [Option.some.injEq] at h; subst h
    obtain ⟨xv, h2, h3⟩ := evalS_ok R hx
    have h2' := h2
    obtain ⟨d, _, _, rfl⟩ := den_aptr h2'
    exact .pure h2 fun o ho a w r => by simp [execOp, ho, r.eval h3]
  · cases h

theorem vFa_ok {i : Nat} (R : RegsRel ι rg rs) {r : SV × List Fact} (h : vFa P rg T x i = some r) : VOK P n ds ι rs t (.fieldAddr T x i) r := by
  unfold vFa at h
  split at h
  · rename_i b o f hx hf
    split at h
    rotate_left
    · cases h
    rename_i k hk
    simp only [Option.some.injEq] at h; subst h
    obtain ⟨xv, h2, h3⟩ := evalS_ok R hx
    obtain ⟨p, hb, rfl⟩ := den_ptr h2
    obtain ⟨fs, hu, hfs⟩ := fieldT_ok hf
    refine .pure (v := ptr p.1 (o + f.offset)) (by simp [den, hb]) fun op ho a w r => ?_
    simp [execOp, ho, r.eval h3, Instr.fieldAt, underlying, hu, hfs, Instr.sureAddr, fieldPlace, sizeT_ok hk, add_none]
  · rename_i id ix j f hx hf
    split at h
    rotate_left
    · cases h
    rename_i k hk
    simp only [Option.some.injEq] at h; subst h
    obtain ⟨xv, h2, h3⟩ := evalS_ok R hx
    obtain ⟨d, hd1, hi, rfl⟩ := den_aptr h2
    obtain ⟨fs, hu, hfs⟩ := fieldT_ok hf
    refine .pure (v := ptr d.block (d.off + ix.toNat * d.ks.length + (j + f.offset))) (by simp [den, hd1, hi]) fun op ho a w r => ?_
    simp [execOp, ho, r.eval h3, Instr.fieldAt, underlying, hu, hfs, Instr.sureAddr, fieldPlace, sizeT_ok hk, add_none, Nat.add_assoc]
  · cases h

theorem vField_ok {i : Nat} (R : RegsRel ι rg rs) {r : SV × List Fact} (h : vField P rg T x i = some r) : VOK P n ds ι rs t (.field T x i) r := by
  unfold vField at h
  split at h
  rotate_left
  · cases h
  rename_i l f hx hf
  split at h
  rotate_left
  · cases h
  rename_i v l' hv
  simp only [Option.some.injEq] at h; subst h
  obtain ⟨xv, h2, h3⟩ := evalS_ok R hx
  obtain ⟨vs, hl, rfl⟩ := den_agg h2
  obtain ⟨fs, hu, hfs⟩ := fieldT_ok hf
  obtain ⟨u, us, g1, g2, g3, g5⟩ := cellsAt_ok hl hv
  refine .pure g1 fun op ho a w r => ?_
  rcases g5 with ⟨a1, a2, a3⟩ | ⟨a1, a2, a3⟩
  · simp [execOp, ho, r.eval h3, Instr.field, underlying, hu, hfs, asAgg, part, aggT_ok a1, a3]
  · subst a3
    simp [execOp, ho, r.eval h3, Instr.field, underlying, hu, hfs, asAgg, part, aggT_ok a1, sizeT_ok a2, List.extract_eq_take_drop, Nat.add_sub_cancel_left, ← g3]

end
end Go.Ws
