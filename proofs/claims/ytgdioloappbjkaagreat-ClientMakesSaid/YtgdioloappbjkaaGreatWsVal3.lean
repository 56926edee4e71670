/- What only reads, shown right: composites, slices, maps. -/
import Derived.Test.YtgdioloappbjkaaGreatWsVal2
import Derived.Laws.BytesString
set_option linter.unusedSectionVars false
set_option linter.unusedVariables false
set_option linter.unusedSimpArgs false
namespace Go.Ws
variable [A : Arrs]
section
variable {P : Program} {n : Nat} {ds : List Deferred} {ι : Env} {rg : Rg} {rs : List (Nat × Value)} {t : Tree} {x y : Operand} {T : TypeId}

/-- Parts laid into cells. -/
theorem fillS_ok {place : Nat → Option (Nat × Nat)} : ∀ {l : List (Nat × SV)} {cs out : List SV} {vs : List Value} {parts : List (Nat × Value)},
    dens ι cs = some vs → denP ι l = some parts → fillS place cs l = some out → ∃ us, dens ι out = some us ∧ Instr.fill place vs.toArray parts = some us.toArray
  | [], cs, out, vs, parts, hc, hp, h => by
    simp [fillS] at h; subst h
    simp [denP] at hp; subst hp
    exact ⟨vs, hc, rfl⟩
  | (i, v) :: l, cs, out, vs, parts, hc, hp, h => by
    obtain ⟨u, k, h1, h2, rfl⟩ := denP_cons.1 hp
    simp only [fillS] at h
    cases hpl : place i with
    | none => simp [hpl] at h
    | some q =>
      obtain ⟨off, size⟩ := q
      simp only [hpl] at h
      cases hcv : cellsS v with
      | none => simp [hcv] at h
      | some m =>
        simp only [hcv] at h
        cases hb : Nat.beq m.length size with
        | false => simp [hb] at h
        | true =>
          simp only [hb, cond_true] at h
          have hsz := Nat.eq_of_beq_eq_true hb
          cases hsp : spliceS cs off m with
          | none => simp [hsp] at h
          | some cs' =>
            simp only [hsp] at h
            obtain ⟨ms, g1, g2⟩ := cellsS_den hcv h1
            obtain ⟨e1, e2⟩ := spliceS_den hc g1 hsp
            obtain ⟨us, f1, f2⟩ := fillS_ok e1 h2 h
            refine ⟨us, f1, ?_⟩
            rw [fill_cons hpl g2 (by rw [dens_len g1]; exact hsz) e2]
            exact f2

theorem nthPlace_eq : ∀ {l : List (Nat × Nat)} {i : Nat}, nthPlace l i = l[i]?
  | [], i => by cases i <;> rfl
  | x :: l, 0 => rfl
  | x :: l, i + 1 => by simp [nthPlace, nthPlace_eq]

theorem placesT_go {w : World} {fs : List Field} {pl : List (Nat × Nat)} (h : placesT.go P fs = some pl) :
    (fs.toArray.mapM (fun (f : Field) => (do pure (f.offset, ← sizeOf f.type) : Sem (Nat × Nat)))).run P w = .ok pl.toArray w := by
  have key : ∀ (fs : List Field) (pl : List (Nat × Nat)), placesT.go P fs = some pl → (fs.mapM (fun (f : Field) => (do pure (f.offset, ← sizeOf f.type) : Sem (Nat × Nat)))).run P w = .ok pl w := by
    intro fs
    induction fs with
    | nil => intro pl h; simp [placesT.go] at h; subst h; simp
    | cons f fs ih =>
      intro pl h
      simp only [placesT.go] at h
      cases hk : sizeT P f.type with
      | none => simp [hk] at h
      | some k =>
        cases hg : placesT.go P fs with
        | none => simp [hk, hg] at h
        | some m =>
          simp [hk, hg] at h; subst h
          have := ih m hg
          simp [List.mapM_cons, sizeT_ok hk] at this ⊢
          simp [this]
  have := key fs pl h
  simp [List.mapM_toArray] at this ⊢
  simp [this]

theorem vBuild_ok {ps : Array (Nat × Operand)} (R : RegsRel ι rg rs) {r : SV × List Fact} (h : vBuild P rg T ps = some r) : VOK P n ds ι rs t (.build T ps) r := by
  unfold vBuild at h
  split at h
  rotate_left
  · cases h
  rename_i l z pl hl hz hp
  split at h
  rotate_left
  · cases h
  rename_i cs hf
  simp only [Option.some.injEq] at h; subst h
  obtain ⟨vs, a1, a2⟩ := evalPS_ok R hl
  obtain ⟨zv, b1, b2⟩ := zeroT_ok hz
  subst b2
  obtain ⟨us, c1, c2⟩ := fillS_ok (dens_v _) a1 hf
  refine .pure (v := .agg us.toArray) (by simp [den, c1]) fun o ho a w r => ?_
  have hev := r.evalPs a2
  have hmap : (Array.map (fun (i, x) => (i, a.eval x)) ps) = vs.toArray := by
    rw [← hev]
    apply Array.ext'
    simp
  simp only [execOp, ho]
  rw [hmap]
  unfold placeF at hp
  split at hp
  · rename_i len e hu
    split at hp
    rotate_left
    · cases hp
    rename_i k hk
    simp only [Option.some.injEq] at hp; subst hp
    simp [Instr.build, b1 w, underlying, hu, sizeT_ok hk]
    simp at c2
    simp [c2]
  · split at hp
    rotate_left
    · cases hp
    rename_i pl' hpl
    simp only [Option.some.injEq] at hp; subst hp
    unfold placesT at hpl
    split at hpl
    rotate_left
    · cases hpl
    rename_i fs hu
    have hm := placesT_go (w := w) hpl
    simp only [Array.toArray_toList] at hm
    have c2' : Instr.fill (fun i => pl'[i]?) zv.cells vs = some us.toArray := by
      have : (nthPlace pl') = fun i => pl'[i]? := funext fun i => nthPlace_eq
      rw [← this]; simpa using c2
    simp [Instr.build, b1 w, underlying, hu]
    simp at hm
    simp [hm, c2']

theorem boundS_ok {lo : Option Operand} (R : RegsRel ι rg rs) {r : Option Nat} (h : boundS lo rg = some r) :
    (lo = none ∧ r = none) ∨ ∃ o k m, lo = some o ∧ r = some m ∧ evalO rs o = some (.int k (m : Nat)) := by
  unfold boundS at h
  split at h
  · simp at h; exact .inl ⟨rfl, h.symm⟩
  · split at h
    rotate_left
    · cases h
    rename_i o k m hm
    simp at h
    obtain ⟨v, h1, h2⟩ := evalS_ok R hm
    cases den_v h1
    exact .inr ⟨_, k, m, rfl, h.symm, h2⟩

theorem sliceBound_ok {k : IntKind} {m y : Nat} {code : BoundsCode} {w : World} (h : m ≤ y) : (Instr.sliceBound (.int k m) y code).run P w = .ok m w := by
  simp [Instr.sliceBound, asIntOf, h]

/-- The bounds of a slice expression. -/
theorem sliceBounds_ok {lo hi mx : Option Operand} {l h m : Option Nat} {len cap : Nat} {b : Bool} (R : RegsRel ι rg rs) (hl : boundS lo rg = some l) (hh : boundS hi rg = some h) (hm : boundS mx rg = some m)
    (h1 : l.getD 0 ≤ h.getD len) (h2 : h.getD len ≤ m.getD cap) (h3 : m.getD cap ≤ cap) (h4 : m.isSome → h.isSome) {a : Act} (r : Regs n ds rs a) (w : World) :
    (Instr.sliceBounds b len cap (lo.map a.eval) (hi.map a.eval) (mx.map a.eval)).run P w = .ok (l.getD 0, h.getD len, m.getD cap) w := by
  rcases boundS_ok R hl with ⟨rfl, rfl⟩ | ⟨lo', k1, m1, rfl, rfl, e1⟩ <;> rcases boundS_ok R hh with ⟨rfl, rfl⟩ | ⟨hi', k2, m2, rfl, rfl, e2⟩ <;> rcases boundS_ok R hm with ⟨rfl, rfl⟩ | ⟨mx', k3, m3, rfl, rfl, e3⟩ <;>
    simp only [Option.getD_none, Option.getD_some, Option.isSome_none, Option.isSome_some, forall_const, Bool.false_eq_true] at * <;>
    simp_all [Instr.sliceBounds, r.eval, sliceBound_ok]

theorem isStr_ok (h : isStr P T = true) : P.underlying T = some .string := by
  unfold isStr at h
  split at h <;> simp_all

theorem isU8_ok (h : isU8 P T = true) : P.underlying T = some (.int .u8) := by
  unfold isU8 at h
  split at h <;> simp_all

theorem isIntT_ok (h : isIntT P T = true) : ∃ k, P.underlying T = some (.int k) := by
  unfold isIntT at h
  split at h <;> simp_all

theorem cutK_ok {b o k l h m : Nat} {r : SV × List Fact} (hr : cutK b o k l h m = some r) : l ≤ h ∧ h ≤ m ∧ r = (.sl b (if m = l then o else o + l * k) (h - l) (.known (m - l)), []) := by
  unfold cutK at hr
  cases h1 : Nat.ble l h <;> cases h2 : Nat.ble h m <;> simp [h1, h2] at hr
  refine ⟨Nat.le_of_ble_eq_true h1, Nat.le_of_ble_eq_true h2, ?_⟩
  rw [← hr]
  cases h3 : Nat.beq m l with
  | true => simp [Nat.eq_of_beq_eq_true h3]
  | false => simp [Nat.ne_of_beq_eq_false h3]

/-- A slice, cut. -/
theorem run_sliceAt {e : TypeId} (he : P.underlying T = some (.slice e)) {k : Nat} (hk : sizeT P e = some k) {oa : Option Addr} {len cap : Nat} {lo hi mx : Option Value} {l h m : Nat} {w : World}
    (hb : (Instr.sliceBounds true len cap lo hi mx).run P w = .ok (l, h, m) w) :
    (Instr.sliceAt T (.slice oa len cap) lo hi mx).run P w = .ok (.slice (if m = l then oa else oa.map (·.add (l * k))) (h - l) (m - l)) w := by
  simp [Instr.sliceAt, Instr.slice, underlying, he, hb, sizeT_ok hk]

theorem vSlice_ok {lo hi mx : Option Operand} (hd : HD ι t) (R : RegsRel ι rg rs) {r : SV × List Fact} (h : vSlice P rg t T x lo hi mx = some r) : VOK P n ds ι rs t (.slice T x lo hi mx) r := by
  unfold vSlice at h
  split at h
  · -- nil
    rename_i l hh m hx hl hhi hmx
    split at h
    rotate_left
    · cases h
    rename_i k hk
    cases he : sliceElem P T with
    | none => simp [he] at hk
    | some e =>
    simp only [he, Option.bind_some] at hk
    obtain ⟨u, a2, a3⟩ := evalS_ok R hx
    cases den_v a2
    cases hb : (Nat.beq (l.getD 0) 0 && Nat.beq (hh.getD 0) 0 && Nat.beq (m.getD 0) 0 && (hh.isSome || m.isNone)) with
    | false => simp [hb] at h
    | true =>
      simp only [hb, cond_true, Option.some.injEq] at h; subst h
      simp only [Bool.and_eq_true] at hb
      obtain ⟨⟨⟨b1, b2⟩, b3⟩, b4⟩ := hb
      have b1 := Nat.eq_of_beq_eq_true b1
      have b2 := Nat.eq_of_beq_eq_true b2
      have b3 := Nat.eq_of_beq_eq_true b3
      refine .pure (v := .slice none 0 0) rfl fun o ho a w r => ?_
      have hs := sliceBounds_ok (P := P) (b := true) (len := 0) (cap := 0) R hl hhi hmx (by omega) (by omega) (by omega) (by cases m <;> cases hh <;> simp_all) r w
      rw [b1, b2, b3] at hs
      have key := run_sliceAt (sliceElem_ok he) hk (oa := none) hs
      simp at key
      simp [execOp, ho, r.eval a3, key]
  · -- of a block
    rename_i b o len c l hh m hx hl hhi hmx
    split at h
    rotate_left
    · cases h
    rename_i e he
    obtain ⟨u, a2, a3⟩ := evalS_ok R hx
    obtain ⟨p, hb, rfl⟩ := den_sl a2
    split at h
    · -- all known
      rename_i k cp hk
      obtain ⟨c1, c2, rfl⟩ := cutK_ok h
      refine .pure (v := .slice (some ⟨p.1, if cp = l.getD 0 then o else o + l.getD 0 * k, none⟩) (hh.getD len - l.getD 0) (cp - l.getD 0)) (by simp [den, hb, capD]) fun op ho a w r => ?_
      have hs := sliceBounds_ok (P := P) (b := true) (len := len) (cap := cp) R hl hhi hmx c1 c2 (Nat.le_refl _) (by simp) r w
      have key := run_sliceAt (sliceElem_ok he) hk (oa := some ⟨p.1, o, none⟩) hs
      simp only [execOp, ho, r.eval a3, capD]
      simp only [Option.getD_none] at key
      rw [Sem.run_bind, key]
      by_cases e : cp = l.getD 0 <;> simp [e, add_none]
    · rename_i k mm cp hk
      cases hq : (Nat.ble mm cp && hh.isSome) with
      | false => simp [hq] at h
      | true =>
        simp only [hq, cond_true] at h
        simp only [Bool.and_eq_true] at hq
        have q1 := Nat.le_of_ble_eq_true hq.1
        obtain ⟨c1, c2, rfl⟩ := cutK_ok h
        refine .pure (v := .slice (some ⟨p.1, if mm = l.getD 0 then o else o + l.getD 0 * k, none⟩) (hh.getD len - l.getD 0) (mm - l.getD 0)) (by simp [den, hb, capD]) fun op ho a w r => ?_
        have hs := sliceBounds_ok (P := P) (b := true) (len := len) (cap := cp) R hl hhi hmx c1 c2 q1 (fun _ => hq.2) r w
        have key := run_sliceAt (sliceElem_ok he) hk (oa := some ⟨p.1, o, none⟩) hs
        simp only [execOp, ho, r.eval a3, capD]
        simp only [Option.getD_some] at key
        rw [Sem.run_bind, key]
        by_cases e : mm = l.getD 0 <;> simp [e, add_none]
    · -- one that may have more
      rename_i k rr hk
      unfold cutM at h
      split at h
      rotate_left
      · cases h
      rename_i T' sz cs hc
      obtain ⟨p', ob, e1, e2⟩ := hd b _ hc
      rw [hb] at e1; cases e1
      obtain ⟨vs, sp, f1, f2, f3⟩ := e2
      have hlen := dens_len f1
      cases hq : (Nat.ble (l.getD 0) (hh.getD len) && Nat.ble ((hh.getD len + rr) * sz) cs.length && Nat.beq sz k && Nat.blt 0 sz) with
      | false => simp [hq] at h
      | true =>
        simp only [hq, cond_true] at h
        simp only [Bool.and_eq_true] at hq
        obtain ⟨⟨⟨q1, q2⟩, q3⟩, q4⟩ := hq
        have q1 := Nat.le_of_ble_eq_true q1
        have q2 := Nat.le_of_ble_eq_true q2
        have q3 := Nat.eq_of_beq_eq_true q3
        have q4 : 0 < sz := by simpa [Nat.blt_eq] using q4
        subst q3
        have hcap : hh.getD len + rr ≤ p.2 := by
          have : (hh.getD len + rr) * sz ≤ p.2 * sz := by omega
          exact Nat.le_of_mul_le_mul_right this q4
        have hs := fun (a : Act) (r : Regs n ds rs a) (w : World) => sliceBounds_ok (P := P) (b := true) (len := len) (cap := p.2 - rr) R hl hhi hmx q1 (by simp; omega) (by simp) (by simp) r w
        cases hz : (Nat.beq (l.getD 0) 0 || Nat.blt ((l.getD 0 + rr) * sz) cs.length) with
        | true =>
          simp only [hz, cond_true, Option.some.injEq] at h; subst h
          refine .pure (v := .slice (some ⟨p.1, o + l.getD 0 * sz, none⟩) (hh.getD len - l.getD 0) (p.2 - (rr + l.getD 0))) (by simp [den, hb, capD]) fun op ho a w r => ?_
          have key := run_sliceAt (sliceElem_ok he) hk (oa := some ⟨p.1, o, none⟩) (hs a r w)
          simp only [Option.getD_none] at key
          simp only [execOp, ho, r.eval a3, capD]
          rw [Sem.run_bind, key]
          simp only [Bool.or_eq_true] at hz
          rcases hz with hz | hz
          · have hz := Nat.eq_of_beq_eq_true hz
            simp [hz, add_none]
          · have hz : (l.getD 0 + rr) * sz < cs.length := by simpa [Nat.blt_eq] using hz
            have : l.getD 0 + rr < p.2 := by
              have : (l.getD 0 + rr) * sz < p.2 * sz := by omega
              exact Nat.lt_of_mul_lt_mul_right this
            rw [if_neg (by omega)]
            simp [add_none]; omega
        | false =>
          simp only [hz, cond_false] at h
          cases hy : Nat.beq (hh.getD len) (l.getD 0) with
          | false => simp [hy] at h
          | true =>
            simp only [hy, cond_true, Option.some.injEq] at h; subst h
            have hy := Nat.eq_of_beq_eq_true hy
            refine .pure (v := .slice (some ⟨p.1, if p.2 = rr + l.getD 0 then o else o + l.getD 0 * sz, none⟩) 0 (p.2 - (rr + l.getD 0))) (by simp [den, hb]) fun op ho a w r => ?_
            have key := run_sliceAt (sliceElem_ok he) hk (oa := some ⟨p.1, o, none⟩) (hs a r w)
            simp only [Option.getD_none] at key
            simp only [execOp, ho, r.eval a3, capD]
            rw [Sem.run_bind, key, hy]
            have : (p.2 - rr = l.getD 0) ↔ p.2 = rr + l.getD 0 := by omega
            by_cases e : p.2 = rr + l.getD 0
            · rw [if_pos (this.2 e), if_pos e]; simp; omega
            · rw [if_neg (fun h => e (this.1 h)), if_neg e]; simp [add_none]; omega
    · rename_i k mm rr hk
      cases hs0 : hh.isSome with
      | false => simp [hs0] at h
      | true =>
        simp only [hs0, cond_true] at h
        unfold cutL at h
        split at h
        rotate_left
        · cases h
        rename_i T' sz cs hc
        obtain ⟨p', ob, e1, e2⟩ := hd b _ hc
        rw [hb] at e1; cases e1
        obtain ⟨vs, sp, f1, f2, f3⟩ := e2
        have hlen := dens_len f1
        cases hq : (Nat.ble ((mm + rr) * sz) cs.length && Nat.blt 0 sz) with
        | false => simp [hq] at h
        | true =>
          simp only [hq, cond_true] at h
          simp only [Bool.and_eq_true] at hq
          have q2 := Nat.le_of_ble_eq_true hq.1
          have q4 : 0 < sz := by simpa [Nat.blt_eq] using hq.2
          obtain ⟨c1, c2, rfl⟩ := cutK_ok h
          have hcap : mm + rr ≤ p.2 := by
            have : (mm + rr) * sz ≤ p.2 * sz := by omega
            exact Nat.le_of_mul_le_mul_right this q4
          refine .pure (v := .slice (some ⟨p.1, if mm = l.getD 0 then o else o + l.getD 0 * k, none⟩) (hh.getD len - l.getD 0) (mm - l.getD 0)) (by simp [den, hb, capD]) fun op ho a w r => ?_
          have hs := sliceBounds_ok (P := P) (b := true) (len := len) (cap := p.2 - rr) R hl hhi hmx c1 c2 (by simp; omega) (fun _ => hs0) r w
          have key := run_sliceAt (sliceElem_ok he) hk (oa := some ⟨p.1, o, none⟩) hs
          simp only [execOp, ho, r.eval a3, capD]
          simp only [Option.getD_some] at key
          rw [Sem.run_bind, key]
          by_cases e : mm = l.getD 0 <;> simp [e, add_none]
    · cases h
  · -- of an array
    rename_i b o l hh hx hl hhi hmx
    split at h
    rotate_left
    · cases h
    rename_i nn e he
    split at h
    rotate_left
    · cases h
    rename_i k hk
    obtain ⟨u, a2, a3⟩ := evalS_ok R hx
    obtain ⟨p, hb, rfl⟩ := den_ptr a2
    obtain ⟨c1, c2, rfl⟩ := cutK_ok h
    refine .pure (v := .slice (some ⟨p.1, if nn = l.getD 0 then o else o + l.getD 0 * k, none⟩) (hh.getD nn - l.getD 0) (nn - l.getD 0)) (by simp [den, hb, capD]) fun op ho a w r => ?_
    have hs := sliceBounds_ok (P := P) (b := false) (len := nn) (cap := nn) R hl hhi hmx c1 c2 (Nat.le_refl _) (by simp) r w
    simp only [Option.getD_none] at hs
    simp [execOp, ho, r.eval a3, Instr.sliceAt, underlying, arrayElem_ok he, Instr.sureAddr, hs, sizeT_ok hk]
    by_cases e : nn = l.getD 0 <;> simp [e, add_none]
  · -- of a string
    rename_i s l hh hx hl hhi hmx
    cases hst : isStr P T with
    | false => simp [hst] at h
    | true =>
      simp only [hst, cond_true] at h
      cases hq : (Nat.ble (l.getD 0) (hh.getD s.size) && Nat.ble (hh.getD s.size) s.size) with
      | false => simp [hq] at h
      | true =>
        simp only [hq, cond_true, Option.some.injEq] at h; subst h
        simp only [Bool.and_eq_true] at hq
        have c1 := Nat.le_of_ble_eq_true hq.1
        have c2 := Nat.le_of_ble_eq_true hq.2
        obtain ⟨u, a2, a3⟩ := evalS_ok R hx
        cases den_v a2
        have hu := isStr_ok hst
        have hmn : mx = none := by
          rcases boundS_ok R hmx with ⟨h1, _⟩ | ⟨_, _, _, _, h1, _⟩
          · exact h1
          · cases h1
        subst hmn
        refine .pure (v := .string (s.extract (l.getD 0) (hh.getD s.size))) rfl fun op ho a w r => ?_
        have hs := sliceBounds_ok (P := P) (b := false) (len := s.size) (cap := s.size) R hl hhi hmx c1 c2 (Nat.le_refl _) (by simp) r w
        simp only [Option.getD_none, Option.map_none] at hs
        simp [execOp, ho, r.eval a3, Instr.sliceAt, Instr.slice, underlying, hu, hs]
  · cases h

/-! ### Maps -/

theorem mapOf_ok {m : SV} {es : List (SV × SV × Nat)} (h : mapOf t m = some es) {v : Value} (hv : den ι m = some v) (hd : HD ι t) :
    ∃ ms, denE ι es = some ms ∧ ((v = .map none ∧ ms = []) ∨ ∃ r, v = .map (some r) ∧ ∀ w, Sat w (stars [rep ι t]) → ∃ clock, w.heap[r]? = some (.map ms.toArray clock)) := by
  unfold mapOf at h
  split at h
  · simp at h; subst h
    cases den_v hv
    exact ⟨[], rfl, .inl ⟨rfl, rfl⟩⟩
  · rename_i b
    split at h
    rotate_left
    · cases h
    rename_i es' clock hb
    simp at h; subst h
    obtain ⟨p, hp, rfl⟩ := den_mp hv
    obtain ⟨p', o, h1, h2⟩ := hd b _ hb
    rw [hp] at h1; cases h1
    obtain ⟨ms, h3, h4⟩ := h2
    refine ⟨ms, h3, .inr ⟨p.1, rfl, fun w s => ?_⟩⟩
    obtain ⟨p', o', g1, g2, g3⟩ := rep_get s hb
    rw [hp] at g1; cases g1
    obtain ⟨ms', g4, g5⟩ := g2
    rw [h3] at g4; cases g4
    exact ⟨clock, by rw [g3, g5]⟩
  · cases h

theorem findS_ok {kd : IntKind} {q : Int} {K : TypeDesc} (hK : ∃ k, K = .int k) : ∀ {es : List (SV × SV × Nat)} {ms : List MapEntry} {r : Option SV} (i : Nat), denE ι es = some ms → findS kd q es = some r →
    (r = none ∧ Instr.findNow K (.int kd q) ms i = some none) ∨ ∃ sv v j, r = some sv ∧ den ι sv = some v ∧ Instr.findNow K (.int kd q) ms i = some (some (j, v))
  | [], ms, r, i, hd, h => by
    simp [denE] at hd; subst hd
    simp [findS] at h; subst h
    exact .inl ⟨rfl, rfl⟩
  | (k, u, b) :: es, ms, r, i, hd, h => by
    obtain ⟨kv, uv, m, h1, h2, h3, rfl⟩ := denE_cons.1 hd
    obtain ⟨kk, rfl⟩ := hK
    cases k with
    | v kx =>
      cases kx <;> simp [findS] at h
      rename_i k2 m2
      cases den_v h1
      by_cases e : k2 = kd
      · subst e
        simp at h
        by_cases e2 : q = m2
        · subst e2
          simp at h; subst h
          exact .inr ⟨u, uv, i, rfl, h2, by simp [Instr.findNow, Instr.sameNow]⟩
        · have e3 : (q == m2) = false := beq_eq_false_iff_ne.2 e2
          simp [e2] at h
          rcases findS_ok ⟨kk, rfl⟩ (i + 1) h3 h with ⟨g1, g2⟩ | ⟨sv, v, j, g1, g2, g3⟩
          · exact .inl ⟨g1, by simp [Instr.findNow, Instr.sameNow, e3, g2]⟩
          · exact .inr ⟨sv, v, j, g1, g2, by simp [Instr.findNow, Instr.sameNow, e3, g3]⟩
      · simp [e] at h
    | _ => simp [findS] at h

theorem okS_den {ok tt : Bool} {sv : SV} {v : Value} (h : den ι sv = some v) : den ι (okS ok sv tt) = some (if ok then .tuple #[v, .bool tt] else v) := by
  cases ok <;> simp [okS, den, dens, h]

theorem checkKey_int {e : Bool} {K : TypeId} {k kd : IntKind} {q : Int} (h : P.underlying K = some (.int k)) (w : World) : (Instr.checkKey e 10000 K (.int kd q)).run P w = .ok () w := by
  show (Instr.checkKey e (9999 + 1) K (.int kd q)).run P w = _
  rw [Instr.checkKey]
  simp [underlying, h]

theorem getObj_map {w : World} {r : Nat} {es : Array MapEntry} {clock : Nat} (h : w.heap[r]? = some (.map es clock)) : (getObj r).run P w = .ok (.map es clock) w := by simp [getObj, Sem.run, h]
theorem getObj_iter {w : World} {r : Nat} {m : Option Nat} {s l : Nat} {es : Array Nat} (h : w.heap[r]? = some (.mapIter m s es l)) : (getObj r).run P w = .ok (.mapIter m s es l) w := by simp [getObj, Sem.run, h]

theorem vLookup_ok {ix : Operand} {ok : Bool} (hd : HD ι t) (R : RegsRel ι rg rs) {r : SV × List Fact} (h : vLookup P rg t T x ix ok = some r) : VOK P n ds ι rs t (.lookup T x ix ok) r := by
  unfold vLookup at h
  split at h
  rotate_left
  · cases h
  rename_i m kd q K E hm hi hT
  split at h
  rotate_left
  · cases h
  rename_i es hes
  cases hI : isIntT P K with
  | false => simp [hI] at h
  | true =>
    simp only [hI, cond_true] at h
    obtain ⟨u, a2, a3⟩ := evalS_ok R hm
    obtain ⟨v, b2, b3⟩ := evalS_ok R hi
    cases den_v b2
    obtain ⟨ms, c1, c2⟩ := mapOf_ok hes a2 hd
    obtain ⟨kk, hkk⟩ := isIntT_ok hI
    have fin : ∀ {z : SV} {zv : Value} {tt : Bool}, den ι z = some zv →
        (∀ w, (∃ j, tt = true ∧ Instr.findNow (.int kk) (.int kd q) ms 0 = some (some (j, zv))) ∨ (tt = false ∧ Instr.findNow (.int kk) (.int kd q) ms 0 = some none ∧ (zeroValue E).run P w = .ok zv w)) →
        VOK P n ds ι rs t (.lookup T x ix ok) (okS ok z tt, [.no]) := fun {z zv tt} hz hf => by
      refine .all (okS_den hz) fun o ho a w r s => ?_
      simp only [execOp, ho, r.eval a3, r.eval b3]
      have step : (Instr.lookup T u (.int kd q) ok).run P w = .ok (if ok then .tuple #[zv, .bool tt] else zv) w := by
        rcases c2 with ⟨rfl, rfl⟩ | ⟨rr, rfl, hw⟩
        · rcases hf w with ⟨j, rfl, g⟩ | ⟨rfl, g1, g2⟩
          · simp [Instr.findNow] at g
          · cases ok <;> simp [Instr.lookup, underlying, mapElem_ok hT, checkKey_int hkk, Instr.findKey, hkk, g1, g2]
        · obtain ⟨clock, hw⟩ := hw w s
          have hw := getObj_map (P := P) hw
          rcases hf w with ⟨j, rfl, g⟩ | ⟨rfl, g1, g2⟩
          · cases ok <;> simp [Instr.lookup, underlying, mapElem_ok hT, checkKey_int hkk, Instr.findKey, hkk, g, hw]
          · cases ok <;> simp [Instr.lookup, underlying, mapElem_ok hT, checkKey_int hkk, Instr.findKey, hkk, g1, g2, hw]
      rw [Sem.run_bind, step]
      rfl
    split at h
    · rename_i v hv
      simp only [Option.some.injEq] at h; subst h
      rcases findS_ok ⟨kk, rfl⟩ 0 c1 hv with ⟨g1, _⟩ | ⟨sv, v', j, g1, g2, g3⟩
      · cases g1
      · cases g1
        exact fin g2 fun w => .inl ⟨j, rfl, g3⟩
    · rename_i hv
      split at h
      rotate_left
      · cases h
      rename_i z hz
      simp only [Option.some.injEq] at h; subst h
      rcases findS_ok ⟨kk, rfl⟩ 0 c1 hv with ⟨_, g2⟩ | ⟨sv, v', j, g1, _⟩
      · exact fin (den_norm z) fun w => .inr ⟨rfl, g2, zeroV_ok hz w⟩
      · cases g1
    · cases h

theorem vEntry_ok (hd : HD ι t) (R : RegsRel ι rg rs) {r : SV × List Fact} (h : vEntry rg t x = some r) : VOK P n ds ι rs t (.entry x) r := by
  unfold vEntry at h
  split at h
  rotate_left
  · cases h
  rename_i b hx
  split at h
  rotate_left
  · cases h
  rename_i m since s last hb
  split at h
  rotate_left
  · cases h
  rename_i k v born clock hm
  cases hq : (Nat.beq s born && Nat.beq clock last) with
  | false => simp [hq] at h
  | true =>
    simp only [hq, cond_true, Option.some.injEq] at h; subst h
    simp only [Bool.and_eq_true] at hq
    have q1 := Nat.eq_of_beq_eq_true hq.1
    have q2 := Nat.eq_of_beq_eq_true hq.2
    subst q1 q2
    obtain ⟨u, a2, a3⟩ := evalS_ok R hx
    obtain ⟨p, hp, rfl⟩ := den_ptr a2
    obtain ⟨p2, o2, g1, g2⟩ := hd m _ hm
    obtain ⟨ms, g3, g4⟩ := g2
    obtain ⟨kv, uv, mm, e1, e2, e3, e4⟩ := denE_cons.1 g3
    simp [denE] at e3; subst e3; subst e4
    refine .all (v := .tuple #[kv, uv]) (by simp [den, dens, e1, e2]) fun o ho a w r s => ?_
    obtain ⟨q1, o1, f1, f2, f3⟩ := rep_get s hb
    rw [hp] at f1; cases f1
    obtain ⟨q3, o3, f4, f5, f6⟩ := rep_get s hm
    rw [g1] at f4; cases f4
    obtain ⟨rr, f7, f8⟩ := f2
    obtain ⟨ms', f9, f10⟩ := f5
    rw [g3] at f9; cases f9
    simp [denB, g1] at f7
    subst f7
    rw [f8] at f3
    rw [f10] at f6
    simp [execOp, ho, r.eval a3, Instr.entry, getObj_iter f3, getObj_map f6]

theorem vLen_ok (hd : HD ι t) (R : RegsRel ι rg rs) {r : SV × List Fact} (h : vLen P rg t T x = some r) : VOK P n ds ι rs t (.call ⟨.builtin .len, #[x], #[T]⟩) r := by
  unfold vLen at h
  split at h
  · rename_i b o k c e hx hu
    simp only [Option.some.injEq] at h; subst h
    obtain ⟨u, a2, a3⟩ := evalS_ok R hx
    obtain ⟨p, hp, rfl⟩ := den_sl a2
    exact .pure rfl fun o ho a w r => by simp [execOp, ho, resolve, invoke, builtin, Builtin.len_, r.eval a3, underlying, hu, goInt]
  · rename_i b o o' k e hx hu
    simp only [Option.some.injEq] at h; subst h
    obtain ⟨u, a2, a3⟩ := evalS_ok R hx
    obtain ⟨p, hp, rfl⟩ := den_se a2
    exact .pure rfl fun o ho a w r => by simp [execOp, ho, resolve, invoke, builtin, Builtin.len_, r.eval a3, underlying, hu, goInt]
  · rename_i ad k c e hx hu
    simp only [Option.some.injEq] at h; subst h
    obtain ⟨u, a2, a3⟩ := evalS_ok R hx
    simp only [den, Option.some.injEq] at a2; subst a2
    exact .pure rfl fun o ho a w r => by simp [execOp, ho, resolve, invoke, builtin, Builtin.len_, r.eval a3, underlying, hu, goInt]
  · rename_i id e hx hu
    split at h
    rotate_left
    · cases h
    rename_i d hd1
    simp only [Option.some.injEq] at h; subst h
    obtain ⟨u, a2, a3⟩ := evalS_ok R hx
    simp only [den, hd1, Option.some.injEq] at a2; subst a2
    exact .pure rfl fun o ho a w r => by simp [execOp, ho, resolve, invoke, builtin, Builtin.len_, r.eval a3, underlying, hu, goInt]
  · rename_i e hx hu
    simp only [Option.some.injEq] at h; subst h
    obtain ⟨u, a2, a3⟩ := evalS_ok R hx
    cases den_v a2
    exact .pure rfl fun o ho a w r => by simp [execOp, ho, resolve, invoke, builtin, Builtin.len_, r.eval a3, underlying, hu, goInt]
  · rename_i s hx hu
    simp only [Option.some.injEq] at h; subst h
    obtain ⟨u, a2, a3⟩ := evalS_ok R hx
    cases den_v a2
    exact .pure rfl fun o ho a w r => by simp [execOp, ho, resolve, invoke, builtin, Builtin.len_, r.eval a3, underlying, hu, goInt]
  · rename_i m K E hx hu
    split at h
    rotate_left
    · cases h
    rename_i es hes
    simp only [Option.some.injEq] at h; subst h
    obtain ⟨u, a2, a3⟩ := evalS_ok R hx
    obtain ⟨ms, c1, c2⟩ := mapOf_ok hes a2 hd
    have hlen : ms.length = es.length := by
      clear c2 a2 a3 hes hx
      induction es generalizing ms with
      | nil => simp [denE] at c1; simp [← c1]
      | cons e es ih => obtain ⟨k, v, b⟩ := e; obtain ⟨_, _, m, _, _, h3, rfl⟩ := denE_cons.1 c1; simp [ih _ h3]
    refine .all rfl fun o ho a w r s => ?_
    rcases c2 with ⟨rfl, rfl⟩ | ⟨rr, rfl, hw⟩
    · simp at hlen
      simp [execOp, ho, resolve, invoke, builtin, Builtin.len_, r.eval a3, underlying, hu, goInt, ← hlen]
    · obtain ⟨clock, hw⟩ := hw w s
      have hw := getObj_map (P := P) hw
      simp [execOp, ho, resolve, invoke, builtin, Builtin.len_, r.eval a3, underlying, hu, goInt, hw, hlen]
  · cases h

theorem bytesOf_den : ∀ {l : List SV} {ns : List Int} {vs : List Value}, bytesOf l = some ns → dens ι l = some vs → vs = ns.map (Value.int .u8)
  | [], ns, vs, h, hd => by simp [bytesOf] at h; simp [dens] at hd; subst h hd; rfl
  | x :: l, ns, vs, h, hd => by
    obtain ⟨v, m, h1, h2, rfl⟩ := dens_cons.1 hd
    unfold bytesOf at h
    split at h
    · rename_i hh; cases hh
    · rename_i n l' hh
      simp only [List.cons.injEq] at hh
      obtain ⟨hh1, hh2⟩ := hh; subst hh1 hh2
      split at h
      rotate_left
      · cases h
      rename_i m' hm
      simp at h; subst h
      cases den_v h1
      rw [bytesOf_den hm h2]; rfl
    · rename_i n l' hh
      simp only [List.cons.injEq] at hh
      obtain ⟨hh1, hh2⟩ := hh; subst hh1 hh2
      split at h
      rotate_left
      · cases h
      rename_i m' hm
      simp at h; subst h
      simp only [den, Option.some.injEq] at h1; subst h1
      rw [bytesOf_den hm h2]; rfl
    · cases h

theorem vConv_ok {src dst : TypeId} (hd : HD ι t) (R : RegsRel ι rg rs) {r : SV × List Fact} (h : vConv P rg t src dst x = some r) : VOK P n ds ι rs t (.convert src dst x) r := by
  unfold vConv at h
  split at h
  · rename_i a hx
    split at h
    rotate_left
    · cases h
    rename_i z hz
    simp only [Option.some.injEq] at h; subst h
    obtain ⟨u, a2, a3⟩ := evalS_ok R hx
    cases den_v a2
    exact .pure (den_norm z) fun o ho a w r => by simp [execOp, ho, r.eval a3, pureRun_ok hz w]
  · rename_i k m hx
    split at h
    rotate_left
    · cases h
    rename_i z hz
    split at h
    rotate_left
    · cases h
    rename_i sv hs
    simp only [Option.some.injEq] at h; subst h
    obtain ⟨u, a2, a3⟩ := evalS_ok R hx
    simp only [den, Option.some.injEq] at a2; subst a2
    exact .pure (symR_den hs) fun o ho a w r => by simp [execOp, ho, r.eval a3, pureRun_ok hz w]
  · rename_i b o len c hx
    split at h
    rotate_left
    · cases h
    rename_i e cs he hst hcs
    cases h8 : isU8 P e with
    | false => simp [h8] at h
    | true =>
      simp only [h8, cond_true] at h
      split at h
      rotate_left
      · cases h
      rename_i l hl
      split at h
      rotate_left
      · cases h
      rename_i ns hns
      simp only [Option.some.injEq] at h; subst h
      obtain ⟨u, a2, a3⟩ := evalS_ok R hx
      obtain ⟨p, hp, rfl⟩ := den_sl a2
      obtain ⟨p', vs, e1, e2⟩ := hd.cells hcs
      rw [hp] at e1; cases e1
      obtain ⟨g1, g2, g3⟩ := takeS_den (dropS_den e2) hl
      have hv := bytesOf_den hns g1
      refine ⟨.string (strOf ns), by cases anySym l <;> rfl, fun w s f hf => ?_, fun op hop a w rg hf => ?_⟩
      · simp at hf; subst hf
        obtain ⟨p', vs', e1, e3, e4⟩ := rep_cells s hcs
        rw [hp] at e1; cases e1
        rw [e2] at e3; cases e3
        exact ⟨p, _, hp, g1, e4 o len⟩
      · obtain ⟨p', us', e1, e3, e4⟩ := hf _ (List.mem_singleton.2 rfl)
        rw [hp] at e1; cases e1
        rw [g1] at e3; cases e3
        have hlen : ((vs.drop o).take len).length = len := by simp at g2 ⊢; omega
        have hl : (loadCells ⟨p.1, o, none⟩ len).run P w = .ok ((vs.drop o).take len).toArray w := run_loadCells (fun j hj => e4 j (by rw [hlen]; exact hj)) hlen
        rw [hv] at hl
        have key := run_bytesToString w _ len (capD c p.2) ns hl
        simp only [execOp, hop, rg.eval a3]
        rw [Sem.run_bind, run_convert_bytes_string w src dst e _ _ _ (sliceElem_ok he) (isU8_ok h8) (isStr_ok hst), key]
        rfl
  · cases h

theorem vBuiltin_ok {b : Builtin} {args : Array Operand} {aT : Array TypeId} (hd : HD ι t) (R : RegsRel ι rg rs) {r : SV × List Fact} (h : vBuiltin P rg t b args.toList aT.toList = some r) :
    VOK P n ds ι rs t (.call ⟨.builtin b, args, aT⟩) r := by
  have ha : args = args.toList.toArray := by simp
  have hT : aT = aT.toList.toArray := by simp
  rw [ha, hT]
  generalize args.toList = l at h
  generalize aT.toList = m at h
  unfold vBuiltin at h
  split at h
  · exact vLen_ok hd R h
  · exact vCap_ok R h
  · exact vMax_ok R h
  · exact vMin_ok R h
  · cases h

/-- What only reads. -/
theorem evalV_ok {op : Op} (hd : HD ι t) (R : RegsRel ι rg rs) {r : SV × List Fact} (h : evalV P rg t op = some r) (hn : ∀ c ∈ needs r.2, c.1 = c.2) : VOK P n ds ι rs t op r := by
  unfold evalV at h
  split at h
  · exact vMove_ok (.inl rfl) R h
  · exact vMove_ok (.inr rfl) R h
  · exact vPick_ok R h
  · exact vLoad_ok hd R h
  · exact vNil_ok R h
  · exact vFa_ok R h
  · exact vField_ok R h
  · exact vIa_ok R h hn
  · exact vIx_ok R h
  · exact vBin_ok R h
  · exact vUn_ok R h
  · exact vConv_ok hd R h
  · exact vMkI_ok R h
  · exact vMkF_ok R h
  · exact vBuild_ok R h
  · exact vSlice_ok hd R h
  · exact vEx_ok R h
  · exact vTa_ok R h
  · exact vLookup_ok hd R h
  · exact vEntry_ok hd R h
  · exact vBuiltin_ok hd R h
  · cases h

end
end Go.Ws
