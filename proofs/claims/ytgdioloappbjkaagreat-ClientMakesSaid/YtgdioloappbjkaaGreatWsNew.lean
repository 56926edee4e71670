/- What makes a block, shown right. -/
import Derived.Test.YtgdioloappbjkaaGreatWsVal3
set_option linter.unusedSectionVars false
set_option linter.unusedVariables false
set_option linter.unusedSimpArgs false
namespace Go.Ws
variable [A : Arrs]
section
variable {P : Program} {n : Nat} {ds : List Deferred} {ι : Env} {rg : Rg} {rs : List (Nat × Value)} {t : Tree} {x y : Operand} {T : TypeId}

/-- What is claimed of an operation that makes a block. -/
def NOK (P : Program) (n : Nat) (ds : List Deferred) (ι : Env) (rs : List (Nat × Value)) (op : Op) (r : Ch × (Nat → SV)) : Prop :=
  ∃ ob mk, (∀ cap, ObjIs ι cap r.1 ob) ∧ (∀ (ι' : Env) b a cap, ι' b = some (a, cap) → den ι' (r.2 b) = some (mk a)) ∧ NOp P n ds rs op ob mk

theorem nAlloc_ok {r : Ch × (Nat → SV)} (h : nAlloc P T = some r) : NOK P n ds ι rs (.alloc T) r := by
  unfold nAlloc at h
  split at h
  rotate_left
  · cases h
  rename_i z hz
  simp only [Option.some.injEq] at h; subst h
  obtain ⟨zv, h1, rfl⟩ := zeroT_ok hz
  refine ⟨.cells zv.cells T (0, 0), fun b => ptr b 0, fun cap => ⟨_, dens_v _, by simp⟩, fun ι' b a cap hb => by simp [den, hb], fun o ho a w _ => ?_⟩
  simp [execOp, ho, Instr.alloc, h1, newVar, newRow]

theorem nBox_ok (R : RegsRel ι rg rs) {r : Ch × (Nat → SV)} (h : nBox rg T x = some r) : NOK P n ds ι rs (.box T x) r := by
  unfold nBox at h
  split at h
  rotate_left
  · cases h
  rename_i v hv
  split at h
  rotate_left
  · cases h
  rename_i l hl
  simp only [Option.some.injEq] at h; subst h
  obtain ⟨u, a2, a3⟩ := evalS_ok R hv
  obtain ⟨vs, b1, b2⟩ := cellsS_den hl a2
  refine ⟨.cells vs.toArray T (0, 0), fun b => ptr b 0, fun cap => ⟨_, b1, rfl⟩, fun ι' b a cap hb => by simp [den, hb], fun o ho a w r => ?_⟩
  simp [execOp, ho, r.eval a3, Instr.box, newVar, newRow, b2]

theorem repeatS_len {z : List SV} : ∀ {m : Nat}, (repeatS z m).length = m * z.length
  | 0 => by simp [repeatS]
  | m + 1 => by simp [repeatS, repeatS_len, Nat.succ_mul, Nat.add_comm]

/-- Zero's cells, row by row. -/
theorem zero_rows {zs : List Value} (h0 : 0 < zs.length) : ∀ (m : Nat), (Array.range (m * zs.length)).map (fun x => zs.toArray[x % zs.toArray.size]!) = ((List.replicate m zs).flatten).toArray := by
  intro m
  apply Array.ext'
  simp only [Array.toList_map, Array.toList_range]
  apply List.ext_getElem?
  intro i
  simp only [List.getElem?_map]
  have hl : (List.replicate m zs).flatten.length = m * zs.length := by simp
  by_cases hi : i < m * zs.length
  · rw [List.getElem?_range hi]
    have h1 : i = (i / zs.length) * zs.length + i % zs.length := by rw [Nat.mul_comm]; exact (Nat.div_add_mod _ _).symm
    have h2 : i % zs.length < zs.length := Nat.mod_lt _ h0
    have h3 : i / zs.length < m := Nat.div_lt_of_lt_mul (by rw [Nat.mul_comm]; exact hi)
    have h4 := flatten_at (rows := List.replicate m zs) (sz := zs.length) (i := i / zs.length) (k := i % zs.length) (r := zs) (fun r hr => by rw [List.eq_of_mem_replicate hr]) (by simp [h3]) h2
    rw [← h1] at h4
    rw [h4]
    simp [h2]
  · rw [List.getElem?_eq_none (by simpa using Nat.le_of_not_lt hi), List.getElem?_eq_none (by rw [hl]; exact Nat.le_of_not_lt hi)]
    rfl

theorem dens_repeat {z : List SV} {zs : List Value} (h : dens ι z = some zs) : ∀ (m : Nat), dens ι (repeatS z m) = some (List.replicate m zs).flatten
  | 0 => rfl
  | m + 1 => by rw [repeatS, List.replicate_succ, List.flatten_cons]; exact dens_append h (dens_repeat h m)

theorem nSlice_ok {len : Nat} {ps : Array (Nat × Operand)} (R : RegsRel ι rg rs) {r : Ch × (Nat → SV)} (h : nSlice P rg T len ps = some r) : NOK P n ds ι rs (.buildSlice T len ps) r := by
  unfold nSlice at h
  split at h
  rotate_left
  · cases h
  rename_i e he
  split at h
  rotate_left
  · cases h
  rename_i k z l hk hz hl
  cases hq : (Nat.ble (len * k) 16777216 && Nat.beq z.length k && Nat.blt 0 k) with
  | false => simp [hq] at h
  | true =>
    simp only [hq, cond_true] at h
    simp only [Bool.and_eq_true] at hq
    have q1 := Nat.le_of_ble_eq_true hq.1.1
    have q2 := Nat.eq_of_beq_eq_true hq.1.2
    have q3 : 0 < k := by simpa [Nat.blt_eq] using hq.2
    split at h
    rotate_left
    · cases h
    rename_i cs hf
    simp only [Option.some.injEq] at h; subst h
    obtain ⟨vs, a1, a2⟩ := evalPS_ok R hl
    obtain ⟨zv, b1, b2⟩ := zeroT_ok hz
    subst b2
    have hzl : zv.cells.toList.length = k := by simpa using q2
    obtain ⟨us, c1, c2⟩ := fillS_ok (dens_repeat (dens_v _) len) a1 hf
    refine ⟨.cells us.toArray e (0, 0), fun b => .slice (some ⟨b, 0, none⟩) len len, fun cap => ⟨_, c1, rfl⟩, fun ι' b a cap hb => by simp [den, hb, capD], fun o ho a w r => ?_⟩
    have hev := r.evalPs a2
    have hmap : (Array.map (fun (i, x) => (i, a.eval x)) ps) = vs.toArray := by
      rw [← hev]
      apply Array.ext'
      simp
    have hzr := zero_rows (zs := zv.cells.toList) (by omega) len
    simp only [Array.toArray_toList, Array.length_toList] at hzr
    have hsz : zv.cells.size = k := by simpa using hzl
    rw [hsz] at hzr
    simp only [execOp, ho]
    rw [hmap]
    have q4 : ¬ (len * k > 2 ^ 24) := by omega
    by_cases q5 : len * k = 0
    · have : len = 0 := by rcases Nat.mul_eq_zero.1 q5 with h | h <;> omega
      subst this
      have e0 : ∀ f : Nat → Value, (Array.range 0).map f = #[] := fun f => by apply Array.ext'; simp
      simp at c2
      simp [Instr.buildSlice, underlying, sliceElem_ok he, sizeT_ok hk, newRow, e0, c2]
    · simp [Instr.buildSlice, underlying, sliceElem_ok he, sizeT_ok hk, q4, q5, b1 w, hsz, hzr, newRow, c2]

/-- What makes a block. -/
theorem evalN_ok {op : Op} (R : RegsRel ι rg rs) {r : Ch × (Nat → SV)} (h : evalN P rg op = some r) : NOK P n ds ι rs op r := by
  unfold evalN at h
  split at h
  · exact nAlloc_ok h
  · exact nBox_ok R h
  · exact nSlice_ok R h
  · simp only [Option.some.injEq] at h; subst h
    refine ⟨.map #[] 0, fun b => .map (some b), fun cap => ⟨[], rfl, rfl⟩, fun ι' b a cap hb => by simp [den, hb], fun o ho a w r => ?_⟩
    simp only [execOp, ho, Instr.makeMap, newObj]
    rfl
  · cases h

end
end Go.Ws
