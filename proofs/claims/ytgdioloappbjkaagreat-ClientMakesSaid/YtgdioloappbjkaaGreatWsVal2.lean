/- What only reads, shown right: the rest. -/
import Derived.Test.YtgdioloappbjkaaGreatWsVal
import Derived.Laws.StructEq
set_option linter.unusedSectionVars false
set_option linter.unusedVariables false
set_option linter.unusedSimpArgs false
namespace Go.Ws
variable [A : Arrs]
section
variable {P : Program} {n : Nat} {ds : List Deferred} {ι : Env} {rg : Rg} {rs : List (Nat × Value)} {t : Tree} {x y : Operand} {T : TypeId}

theorem vIa_ok {ix : Operand} (R : RegsRel ι rg rs) {r : SV × List Fact} (h : vIa P rg T x ix = some r) (hn : ∀ c ∈ needs r.2, c.1 = c.2) : VOK P n ds ι rs t (.indexAddr T x ix) r := by
  unfold vIa at h
  split at h
  · rename_i b o len c kd i hx hi
    obtain ⟨xv, h2, h3⟩ := evalS_ok R hx
    obtain ⟨iv, i2, i3⟩ := evalS_ok R hi
    cases den_v i2
    obtain ⟨p, hb, rfl⟩ := den_sl h2
    cases hlt : Nat.blt i len with
    | false => simp [hlt] at h
    | true =>
      simp only [hlt, cond_true] at h
      have hlt' : i < len := by simpa [Nat.blt_eq] using hlt
      split at h
      rotate_left
      · cases h
      rename_i e he
      split at h
      rotate_left
      · cases h
      rename_i k hk
      simp only [Option.some.injEq] at h; subst h
      refine .pure (v := ptr p.1 (o + i * k)) (by simp [den, hb]) fun op ho a w r => ?_
      simp [execOp, ho, r.eval h3, r.eval i3, Instr.indexAt, asIntOf, underlying, sliceElem_ok he, sizeT_ok hk, add_none, hlt']
  · rename_i b o kd i hx hi
    obtain ⟨xv, h2, h3⟩ := evalS_ok R hx
    obtain ⟨iv, i2, i3⟩ := evalS_ok R hi
    cases den_v i2
    obtain ⟨p, hb, rfl⟩ := den_ptr h2
    split at h
    rotate_left
    · cases h
    rename_i len e he
    cases hlt : Nat.blt i len with
    | false => simp [hlt] at h
    | true =>
      simp only [hlt, cond_true] at h
      have hlt' : i < len := by simpa [Nat.blt_eq] using hlt
      split at h
      rotate_left
      · cases h
      rename_i k hk
      simp only [Option.some.injEq] at h; subst h
      refine .pure (v := ptr p.1 (o + i * k)) (by simp [den, hb]) fun op ho a w r => ?_
      simp [execOp, ho, r.eval h3, r.eval i3, Instr.indexAt, asIntOf, underlying, arrayElem_ok he, sizeT_ok hk, add_none, hlt', Instr.sureAddr]
  · rename_i id ixv hx hi
    obtain ⟨xv, h2, h3⟩ := evalS_ok R hx
    obtain ⟨iv, i2, i3⟩ := evalS_ok R hi
    split at h
    rotate_left
    · cases h
    rename_i d e kd i sy hd1 he hii
    split at h
    rotate_left
    · cases h
    rename_i k hk
    cases hb : Nat.beq k d.ks.length with
    | false => rw [hb] at h; cases h
    | true =>
      rw [hb, cond_true] at h
      have hk' := Nat.eq_of_beq_eq_true hb
      simp only [Option.some.injEq] at h; subst h
      have hneed : 0 ≤ i ∧ i < d.n := by simpa using hn (decide (0 ≤ i ∧ i < d.n), true) (by simp [needs])
      rw [show iv = .int kd i from by
        unfold intS at hii
        split at hii <;> simp at hii <;> obtain ⟨rfl, rfl, rfl⟩ := hii <;> simp [den] at i2 <;> exact i2.symm] at i3
      simp only [den, hd1, Option.some.injEq] at h2; subst h2
      refine ⟨ptr d.block (d.off + i.toNat * d.ks.length), by simp [den, hd1, hneed], fun w s f hf => ?_, fun op ho a w r _ => ?_⟩
      · simp at hf; subst hf
        simpa [FactOK] using hneed
      · have h1 : i.toNat < d.n := by omega
        have h2 : ((i.toNat : Nat) : Int) = i := by omega
        obtain ⟨m, rfl⟩ : ∃ m : Nat, i = m := ⟨i.toNat, h2.symm⟩
        simp only [Int.toNat_natCast] at h1
        simp [execOp, ho, r.eval h3, r.eval i3, Instr.indexAt, asIntOf, underlying, sliceElem_ok he, sizeT_ok hk, add_none, h1, hk']
  · cases h

theorem vIx_ok {ix : Operand} (R : RegsRel ι rg rs) {r : SV × List Fact} (h : vIx P rg T x ix = some r) : VOK P n ds ι rs t (.index T x ix) r := by
  unfold vIx at h
  split at h
  · rename_i s kd i hx hi
    obtain ⟨xv, h2, h3⟩ := evalS_ok R hx
    obtain ⟨iv, i2, i3⟩ := evalS_ok R hi
    cases den_v i2; cases den_v h2
    split at h
    rotate_left
    · cases h
    rename_i v hv
    simp only [Option.some.injEq] at h; subst h
    exact .pure (den_norm v) fun op ho a w r => by simp [execOp, ho, r.eval h3, r.eval i3, pureRun_ok hv w]
  · rename_i l kd i hx hi
    obtain ⟨xv, h2, h3⟩ := evalS_ok R hx
    obtain ⟨iv, i2, i3⟩ := evalS_ok R hi
    cases den_v i2
    obtain ⟨vs, hl, rfl⟩ := den_agg h2
    split at h
    rotate_left
    · cases h
    rename_i len e he
    cases hlt : Nat.blt i len with
    | false => simp [hlt] at h
    | true =>
      simp only [hlt, cond_true] at h
      have hlt' : i < len := by simpa [Nat.blt_eq] using hlt
      split at h
      rotate_left
      · cases h
      rename_i k hk
      split at h
      rotate_left
      · cases h
      rename_i v l' hv
      simp only [Option.some.injEq] at h; subst h
      obtain ⟨u, us, g1, g2, g3, g5⟩ := cellsAt_ok hl hv
      refine .pure g1 fun op ho a w r => ?_
      rcases g5 with ⟨a1, a2, a3⟩ | ⟨a1, a2, a3⟩
      · simp [execOp, ho, r.eval h3, r.eval i3, Instr.index, asIntOf, underlying, arrayElem_ok he, hlt', part, sizeT_ok hk, aggT_ok a1, a3]
      · subst a3
        have hke : k = us.length := by rw [hk] at a2; simpa using a2
        subst hke
        simp [execOp, ho, r.eval h3, r.eval i3, Instr.index, asIntOf, underlying, arrayElem_ok he, hlt', part, sizeT_ok hk, aggT_ok a1, List.extract_eq_take_drop, Nat.add_sub_cancel_left, ← g3]
  · cases h

theorem equal_nil {d : TypeDesc} {a b : SV} (h : nilEq d a b = true) (hd : P.underlying T = some d) {u v : Value} (hu : den ι a = some u) (hv : den ι b = some v) (w : World) :
    (Op.equal T u v).run P w = .ok false w ∧ (∀ (x y : Operand) (op : BinOp), (eqGuard op T x y u v).run P w = .ok () w) ∧ (binOp .eql T u v = do pure (.bool (← Op.equal T u v))) ∧ (binOp .neq T u v = do pure (.bool (!(← Op.equal T u v)))) := by
  unfold nilEq at h
  split at h
  · obtain ⟨p, _, rfl⟩ := den_ptr hu; cases den_v hv
    refine ⟨by show (Op.equalIn (9999 + 1) T _ _).run P w = _; rw [Op.equalIn]; simp [underlying, hd], fun x y op => by cases op <;> simp [eqGuard], rfl, rfl⟩
  · obtain ⟨p, q, _, _, rfl⟩ := den_fn hu; cases den_v hv
    refine ⟨by show (Op.equalIn (9999 + 1) T _ _).run P w = _; rw [Op.equalIn]; simp [underlying, hd], fun x y op => by cases op <;> simp [eqGuard], rfl, rfl⟩
  · obtain ⟨p, _, rfl⟩ := den_sl hu; cases den_v hv
    refine ⟨by show (Op.equalIn (9999 + 1) T _ _).run P w = _; rw [Op.equalIn]; simp [underlying, hd], fun x y op => by cases op <;> simp [eqGuard], rfl, rfl⟩
  · obtain ⟨p, _, rfl⟩ := den_se hu; cases den_v hv
    refine ⟨by show (Op.equalIn (9999 + 1) T _ _).run P w = _; rw [Op.equalIn]; simp [underlying, hd], fun x y op => by cases op <;> simp [eqGuard], rfl, rfl⟩
  · obtain ⟨p, _, rfl⟩ := den_mp hu; cases den_v hv
    refine ⟨by show (Op.equalIn (9999 + 1) T _ _).run P w = _; rw [Op.equalIn]; simp [underlying, hd], fun x y op => by cases op <;> simp [eqGuard], rfl, rfl⟩
  · obtain ⟨p, _, rfl⟩ := den_ifc hu; cases den_v hv
    refine ⟨by show (Op.equalIn (9999 + 1) T _ _).run P w = _; rw [Op.equalIn]; simp [underlying, hd], fun x y op => by cases op <;> simp [eqGuard], rfl, rfl⟩
  · cases h

theorem intS_den {x : SV} {k : IntKind} {n : Int} {s : Bool} {v : Value} (h : intS x = some (k, n, s)) (d : den ι x = some v) : v = .int k n := by
  unfold intS at h
  split at h <;> simp at h <;> obtain ⟨rfl, rfl, rfl⟩ := h <;> simp [den] at d <;> exact d.symm

theorem boolOf_den' {x : SV} {p : Bool} {v : Value} (h : boolOf x = some p) (d : den ι x = some v) : v = .bool p := by
  unfold boolOf at h
  split at h <;> simp at h <;> subst h <;> simp [den] at d <;> exact d.symm

theorem part_ok {T : TypeId} {cs l : List SV} {o : Nat} {v : SV} {vs : List Value} (hd : dens ι cs = some vs) (h : cellsAt P T cs o = some (v, l)) :
    ∃ u, den ι v = some u ∧ ∀ w, (part T vs.toArray o).run P w = .ok u w := by
  obtain ⟨u, us, g1, g2, g3, g5⟩ := cellsAt_ok hd h
  refine ⟨u, g1, fun w => ?_⟩
  rcases g5 with ⟨a1, a2, a3⟩ | ⟨a1, a2, a3⟩
  · simp [part, aggT_ok a1, a3]
  · subst a3
    simp [part, aggT_ok a1, sizeT_ok a2, List.extract_eq_take_drop, Nat.add_sub_cancel_left, ← g3]

theorem eqF_ok {f : TypeId → SV → SV → Option Bool} {d : Nat} (hf : ∀ (T : TypeId) (x y : SV) (r : Bool) (u v : Value), f T x y = some r → den ι x = some u → den ι y = some v → ∀ w, (Op.equalIn d T u v).run P w = .ok r w) {xs ys : List SV} {us vs : List Value}
    (h1 : dens ι xs = some us) (h2 : dens ι ys = some vs) : ∀ {fs : List Field} {r : Bool}, eqF P f xs ys fs = some r → ∀ w, (Op.eqFields d us.toArray vs.toArray fs).run P w = .ok r w
  | [], r, h, w => by simp only [eqF, Option.some.injEq] at h; subst h; simp [Op.eqFields]
  | x :: l, r, h, w => by
    simp only [eqF, Bool.cond_eq_ite] at h
    split at h
    · rename_i hn
      have hn' : x.name = "_" := by simpa using hn
      simp only [Op.eqFields, hn', ne_eq, not_true_eq_false, if_false]
      exact eqF_ok hf h1 h2 h w
    · rename_i hn
      have hn' : x.name ≠ "_" := by simpa using hn
      split at h
      rotate_left
      · cases h
      rename_i a _ b _ ha hb
      split at h
      rotate_left
      · cases h
      rename_i p q hp hq
      simp only [Option.some.injEq] at h; subst h
      obtain ⟨u, a1, a2⟩ := part_ok h1 ha
      obtain ⟨v, b1, b2⟩ := part_ok h2 hb
      have ih := eqF_ok hf h1 h2 hq w
      have he := hf _ _ _ _ _ _ hp a1 b1 w
      rw [Op.eqFields, if_pos hn']
      simp only [Sem.run_bind, a2, b2, he, Result.andThen_ok]
      cases p with
      | false => simp
      | true => simpa using ih

theorem eqV_ok : ∀ (k : Nat) (T : TypeId) (x y : SV) (r : Bool) (u v : Value), eqV P k T x y = some r → den ι x = some u → den ι y = some v → ∀ (d : Nat) w, (Op.equalIn (k + d) T u v).run P w = .ok r w
  | 0, _, _, _, _, _, _, h, _, _, _, _ => by simp [eqV] at h
  | k + 1, T, x, y, r, u, v, h, hu, hv, d, w => by
    rw [show k + 1 + d = (k + d) + 1 from by omega]
    simp only [eqV, Bool.cond_eq_ite] at h
    split at h
    · rename_i k' ht
      split at h
      rotate_left
      · cases h
      rename_i k1 a _ k2 b _ ha hb
      split at h
      rotate_left
      · cases h
      rename_i hk
      simp only [decide_eq_true_eq] at hk
      simp only [Option.some.injEq] at h; subst h
      rw [intS_den ha hu, intS_den hb hv, hk]
      exact run_equalIn_int w (k + d) T _ k' a b ht
    · rename_i ht
      split at h
      rotate_left
      · cases h
      rename_i p q ha hb
      simp only [Option.some.injEq] at h; subst h
      rw [boolOf_den' ha hu, boolOf_den' hb hv]
      exact run_equalIn_bool w (k + d) T p q ht
    · rename_i fs ht
      split at h
      rotate_left
      · cases h
      rename_i l m
      split at h
      · cases h
      rename_i hs
      obtain ⟨us, h1, rfl⟩ := den_agg hu
      obtain ⟨vs, h2, rfl⟩ := den_agg hv
      have hfs : P.fieldsOf T = fs := by simp [Program.fieldsOf, ht]
      rw [run_equalIn_struct w (k + d) T _ _ (by rw [hfs]; exact ht) (by simpa using hs), hfs]
      exact eqF_ok (fun T x y r u v h hu hv w => eqV_ok k T x y r u v h hu hv d w) h1 h2 h w
    · cases h

theorem binA_ok {op : BinOp} {T : TypeId} {sv : SV} {u v : List Value} {xs ys : List SV} (h : binA P op T (.agg xs) (.agg ys) = some sv) (hu : dens ι xs = some u) (hv : dens ι ys = some v) :
    ∃ r, den ι sv = some r ∧ ∀ (x y : Operand) w, (do eqGuard op T x y (.agg u.toArray) (.agg v.toArray); binOp op T (.agg u.toArray) (.agg v.toArray) : Sem Value).run P w = .ok r w := by
  unfold binA at h
  simp only [Bool.cond_eq_ite] at h
  split at h
  · cases h
  rename_i hg
  have hg' : P.eqGuardType P.depth T = false := by simpa using hg
  have key : ∀ r, eqV P 8 T (.agg xs) (.agg ys) = some r → ∀ w, (Op.equalIn 10000 T (.agg u.toArray) (.agg v.toArray)).run P w = .ok r w := fun r hr w =>
    eqV_ok (ι := ι) 8 T _ _ r _ _ hr (by simp [den, hu]) (by simp [den, hv]) 9992 w
  split at h
  · rename_i r hr
    simp only [Option.some.injEq] at h; subst h
    refine ⟨.bool r, rfl, fun x y w => ?_⟩
    rw [Sem.run_bind, run_eqGuard_agg w .eql T x y _ _ hg', Result.andThen_ok, run_eql_struct, key r hr w]
    rfl
  · rename_i r hr
    simp only [Option.some.injEq] at h; subst h
    refine ⟨.bool (!r), rfl, fun x y w => ?_⟩
    rw [Sem.run_bind, run_eqGuard_agg w .neq T x y _ _ hg', Result.andThen_ok, run_neq_struct, key r hr w]
    rfl
  · cases h

theorem binP_ok {op : BinOp} {yT : TypeId} {a b sv : SV} {u v : Value} (hs : binP P op T x y a b = some sv) (a2 : den ι a = some u) (b2 : den ι b = some v) (a3 : evalO rs x = some u) (b3 : evalO rs y = some v) : VOK P n ds ι rs t (.binOp op T x y yT) (sv, []) := by
  unfold binP at hs
  split at hs
  · rename_i u' v' hu' hv'
    rw [plain_den hu'] at a2; cases a2
    rw [plain_den hv'] at b2; cases b2
    split at hs
    rotate_left
    · cases hs
    rename_i z hz
    exact .pure (normR_den hs) fun o ho a w r => by
      simp only [execOp, ho, r.eval a3, r.eval b3]
      rw [Sem.run_bind, pureRun_ok hz w]
      rfl
  · cases hn : nilEqT P T a b with
    | false => simp [hn] at hs
    | true =>
      simp only [hn, cond_true] at hs
      unfold nilEqT at hn
      split at hn
      rotate_left
      · cases hn
      rename_i d hd
      split at hs
      · simp only [Option.some.injEq] at hs; subst hs
        refine .pure (v := .bool false) rfl fun o ho ac w r => ?_
        obtain ⟨h1, h2, h3, h4⟩ := equal_nil hn hd a2 b2 w
        simp [execOp, ho, r.eval a3, r.eval b3, h2, h3, h1]
      · simp only [Option.some.injEq] at hs; subst hs
        refine .pure (v := .bool true) rfl fun o ho ac w r => ?_
        obtain ⟨h1, h2, h3, h4⟩ := equal_nil hn hd a2 b2 w
        simp [execOp, ho, r.eval a3, r.eval b3, h2, h4, h1]
      · cases hs

theorem vBin_ok {op : BinOp} {yT : TypeId} (R : RegsRel ι rg rs) {r : SV × List Fact} (h : vBin P rg op T x y = some r) : VOK P n ds ι rs t (.binOp op T x y yT) r := by
  unfold vBin at h
  split at h
  rotate_left
  · cases h
  rename_i a b ha hb
  split at h
  rotate_left
  · cases h
  rename_i sv hs
  simp only [Option.some.injEq] at h; subst h
  obtain ⟨u, a2, a3⟩ := evalS_ok R ha
  obtain ⟨v, b2, b3⟩ := evalS_ok R hb
  unfold binS at hs
  split at hs
  · rename_i l m
    simp only [Bool.cond_eq_ite] at hs
    obtain ⟨us, h1, rfl⟩ := den_agg a2
    obtain ⟨vs, h2, rfl⟩ := den_agg b2
    split at hs
    · obtain ⟨z, z1, z2⟩ := binA_ok hs h1 h2
      exact .pure z1 fun o ho a w r => by
        simp only [execOp, ho, r.eval a3, r.eval b3]
        rw [Sem.run_bind, z2 x y w]
        rfl
    · exact binP_ok hs a2 b2 a3 b3
  · exact binP_ok hs a2 b2 a3 b3

theorem vUn_ok {op : UnOp} (R : RegsRel ι rg rs) {r : SV × List Fact} (h : vUn P rg op x = some r) : VOK P n ds ι rs t (.unOp op T x) r := by
  unfold vUn at h
  split at h
  rotate_left
  · cases h
  rename_i a ha
  split at h
  rotate_left
  · cases h
  rename_i u hu
  split at h
  rotate_left
  · cases h
  rename_i z hz
  split at h
  rotate_left
  · cases h
  rename_i sv hs
  simp only [Option.some.injEq] at h; subst h
  obtain ⟨u', a2, a3⟩ := evalS_ok R ha
  rw [plain_den hu] at a2; cases a2
  exact .pure (normR_den hs) fun o ho a w r => by simp [execOp, ho, r.eval a3, pureRun_ok hz w]

theorem mkInt_den {k : IntKind} {n : Int} {s : Bool} : den ι (mkInt k n s) = some (.int k n) := by cases s <;> rfl

theorem isIface_ok {b : Bool} (h : isIface P T = some b) : ∃ d, P.underlying T = some d ∧ (b = false → ∀ m, d ≠ .interface m) := by
  unfold isIface at h
  split at h
  · rename_i m hm; exact ⟨_, hm, by simp at h; simp [← h]⟩
  · rename_i d hn hd; exact ⟨d, hd, fun _ m e => hn m e⟩
  · cases h

theorem vMkI_ok (R : RegsRel ι rg rs) {r : SV × List Fact} (h : vMkI P rg T x = some r) : VOK P n ds ι rs t (.makeInterface T x) r := by
  unfold vMkI at h
  split at h
  rotate_left
  · cases h
  rename_i v hv hi
  simp only [Option.some.injEq] at h; subst h
  obtain ⟨u, a2, a3⟩ := evalS_ok R hv
  obtain ⟨d, hd, hn⟩ := isIface_ok hi
  have : UT P T d := ⟨hd⟩
  have key := V_mki (P := P) (n := n) (ds := ds) (H := [rep ι t]) (T := T) (hn rfl) a3
  exact .pure (v := .iface T u) (by simp [den, a2]) fun o ho a w r => key.2 o ho a w r trivial

theorem vMkF_ok {f : Fn} {l1 l2 : Array Operand} (R : RegsRel ι rg rs) {r : SV × List Fact} (h : vMkF rg f l1 l2 = some r) : VOK P n ds ι rs t (.makeFunc f l1 l2) r := by
  unfold vMkF at h
  split at h
  rotate_left
  · cases h
  rename_i a c ha hc
  simp only [Option.some.injEq] at h; subst h
  obtain ⟨u, a2, a3⟩ := evalSs_ok R ha
  obtain ⟨v, c2, c3⟩ := evalSs_ok R hc
  have key := V_mkf (P := P) (n := n) (ds := ds) (H := [rep ι t]) (fn := f) a3 c3
  simp only [Array.toArray_toList] at key
  exact .pure (v := .func f u.toArray v.toArray) (by simp [den, a2, c2]) fun o ho a w r => key.2 o ho a w r trivial

theorem vEx_ok {i : Nat} (R : RegsRel ι rg rs) {r : SV × List Fact} (h : vEx rg x i = some r) : VOK P n ds ι rs t (.extract x i) r := by
  unfold vEx at h
  split at h
  rotate_left
  · cases h
  rename_i l hl
  split at h
  rotate_left
  · cases h
  rename_i v hv
  simp only [Option.some.injEq] at h; subst h
  obtain ⟨u, a2, a3⟩ := evalS_ok R hl
  obtain ⟨vs, b2, rfl⟩ := den_tup a2
  obtain ⟨z, c2, c3⟩ := nthS_den b2 hv
  exact .pure c2 fun o ho a w r => by simp [execOp, ho, r.eval a3, Instr.extract, c3]

theorem vTa_ok {xT A : TypeId} {ok : Bool} (R : RegsRel ι rg rs) {r : SV × List Fact} (h : vTa P rg x A ok = some r) : VOK P n ds ι rs t (.typeAssert x xT A ok) r := by
  unfold vTa at h
  split at h
  rotate_left
  · cases h
  rename_i tt v hx hi
  cases hb : Nat.beq tt A with
  | false => simp [hb] at h
  | true =>
    have := Nat.eq_of_beq_eq_true hb
    subst this
    simp only [hb, cond_true, Option.some.injEq] at h; subst h
    obtain ⟨u, a2, a3⟩ := evalS_ok R hx
    obtain ⟨z, b2, rfl⟩ := den_ifc a2
    obtain ⟨d, hd, hn⟩ := isIface_ok hi
    refine .pure (v := if ok then .tuple #[z, .bool true] else z) (by cases ok <;> simp [okS, den, dens, b2]) fun o ho a w r => ?_
    cases d <;> first | exact absurd rfl (hn rfl _) | (cases ok <;> simp [execOp, ho, r.eval a3, Instr.typeAssert, underlying, hd])

theorem vMax_ok {aT : Array TypeId} (R : RegsRel ι rg rs) {r : SV × List Fact} (h : vMax rg x y = some r) : VOK P n ds ι rs t (.call ⟨.builtin .max, #[x, y], aT⟩) r := by
  unfold vMax at h
  split at h
  rotate_left
  · cases h
  rename_i a b hx hy
  split at h
  rotate_left
  · cases h
  rename_i k p s k' q s' ha hb
  cases hk : decide (k = k') with
  | false => simp [hk] at h
  | true =>
    simp only [hk, cond_true, Option.some.injEq] at h; subst h
    have := of_decide_eq_true hk
    subst this
    obtain ⟨u, a2, a3⟩ := evalS_ok R hx
    obtain ⟨v, b2, b3⟩ := evalS_ok R hy
    have e1 := intS_den ha a2
    have e2 := intS_den hb b2
    subst e1 e2
    exact .pure mkInt_den fun o ho a w r => (V_max (P := P) (n := n) (ds := ds) (H := []) (aT := aT) a3 b3).2 o ho a w r trivial

theorem vMin_ok {aT : Array TypeId} (R : RegsRel ι rg rs) {r : SV × List Fact} (h : vMin rg x y = some r) : VOK P n ds ι rs t (.call ⟨.builtin .min, #[x, y], aT⟩) r := by
  unfold vMin at h
  split at h
  rotate_left
  · cases h
  rename_i a b hx hy
  split at h
  rotate_left
  · cases h
  rename_i k p s k' q s' ha hb
  cases hk : decide (k = k') with
  | false => simp [hk] at h
  | true =>
    simp only [hk, cond_true, Option.some.injEq] at h; subst h
    have := of_decide_eq_true hk
    subst this
    obtain ⟨u, a2, a3⟩ := evalS_ok R hx
    obtain ⟨v, b2, b3⟩ := evalS_ok R hy
    have e1 := intS_den ha a2
    have e2 := intS_den hb b2
    subst e1 e2
    exact .pure mkInt_den fun o ho a w r => (V_min (P := P) (n := n) (ds := ds) (H := []) (aT := aT) a3 b3).2 o ho a w r trivial

theorem vCap_ok (R : RegsRel ι rg rs) {r : SV × List Fact} (h : vCap P rg T x = some r) : VOK P n ds ι rs t (.call ⟨.builtin .cap, #[x], #[T]⟩) r := by
  unfold vCap at h
  split at h
  · rename_i b o k c e hx he
    simp only [Option.some.injEq] at h; subst h
    obtain ⟨u, a2, a3⟩ := evalS_ok R hx
    obtain ⟨p, hb, rfl⟩ := den_sl a2
    exact .pure rfl fun o ho a w r => by simp [execOp, ho, resolve, invoke, builtin, Builtin.cap_, r.eval a3, underlying, sliceElem_ok he, goInt, capD]
  · rename_i e hx he
    simp only [Option.some.injEq] at h; subst h
    obtain ⟨u, a2, a3⟩ := evalS_ok R hx
    cases den_v a2
    exact .pure rfl fun o ho a w r => by simp [execOp, ho, resolve, invoke, builtin, Builtin.cap_, r.eval a3, underlying, sliceElem_ok he, goInt]
  · cases h

end
end Go.Ws
