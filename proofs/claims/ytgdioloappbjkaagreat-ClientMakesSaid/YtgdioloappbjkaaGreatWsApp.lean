/- append, shown right. -/
import Derived.Test.YtgdioloappbjkaaGreatWsAct
set_option linter.unusedSectionVars false
set_option linter.unusedVariables false
set_option linter.unusedSimpArgs false
namespace Go.Ws
variable [A : Arrs]

theorem Tri.get_del {α : Type} : ∀ (k : Nat) (t : Tri α) (n m : Nat), n + 1 < 2 ^ k → (t.del k n).get m = if m = n then none else t.get m
  | 0, t, n, m, h => by simp at h
  | k + 1, t, n, m, h => by
    have e2 : 2 ^ (k + 1) = 2 * 2 ^ k := by rw [Nat.pow_succ, Nat.mul_comm]
    have key : ∀ n', n = n' + 1 → n' / 2 + 1 < 2 ^ k := fun n' e => by omega
    cases t with
    | leaf => simp [Tri.del, Tri.get_leaf]
    | node x l r =>
      cases n with
      | zero =>
        cases m with
        | zero => simp [Tri.del, Tri.get_zero]
        | succ m => simp [Tri.del, Tri.get_succ]
      | succ n =>
        have hk := key n rfl
        have ihl := fun m => Tri.get_del k l (n / 2) m hk
        have ihr := fun m => Tri.get_del k r (n / 2) m hk
        cases m with
        | zero =>
          simp only [Tri.del]
          cases hb : Nat.beq (n % 2) 0 <;> simp [Tri.get_zero]
        | succ m =>
          simp only [Tri.del]
          cases hb : Nat.beq (n % 2) 0 with
          | true =>
            have h0 := Nat.eq_of_beq_eq_true hb
            simp only [cond_true, Tri.get_succ, ihl]
            cases hm : Nat.beq (m % 2) 0 with
            | true =>
              have h1 := Nat.eq_of_beq_eq_true hm
              simp only [cond_true]
              by_cases e : m / 2 = n / 2
              · rw [if_pos e, if_pos (by omega)]
              · rw [if_neg e, if_neg (by omega)]
            | false =>
              have h1 := Nat.ne_of_beq_eq_false hm
              simp only [cond_false]
              rw [if_neg (by omega)]
          | false =>
            have h0 := Nat.ne_of_beq_eq_false hb
            simp only [cond_false, Tri.get_succ, ihr]
            cases hm : Nat.beq (m % 2) 0 with
            | true =>
              have h1 := Nat.eq_of_beq_eq_true hm
              simp only [cond_true]
              rw [if_neg (by omega)]
            | false =>
              have h1 := Nat.ne_of_beq_eq_false hm
              simp only [cond_false]
              by_cases e : m / 2 = n / 2
              · rw [if_pos e, if_pos (by omega)]
              · rw [if_neg e, if_neg (by omega)]

variable {ι : Env} {t : Tree} {w w' : World} {F : HP}

/-- A block is left. -/
theorem rep_del (s : Sat w (stars [F, rep ι t])) {b : Nat} (hs : b + 1 < 2 ^ deep) : Sat w (stars [F, rep ι (t.del deep b)]) := by
  refine s.imp fun h x => ?_
  refine sep_mono (fun _ y => y) (fun h y => sep_mono (fun h z => ?_) (fun _ z => z) y) x
  obtain ⟨z1, z2, z3⟩ := z
  have conv : ∀ y c, (t.del deep b).get y = some c → t.get y = some c := fun y c hy => by
    rw [Tri.get_del _ _ _ _ hs] at hy
    by_cases e : y = b
    · rw [if_pos e] at hy; cases hy
    · rwa [if_neg e] at hy
  exact ⟨fun y c hy => z1 y c (conv y c hy), fun x y c c' p p' h1 h2 => z2 x y c c' p p' (conv x c h1) (conv y c' h2), z3⟩

/-- A block gets another name. -/
theorem rep_rename (s : Sat w (stars [F, rep ι t])) {b nb : Nat} {c c' : Ch} {p : Nat × Nat} {o' : Obj} (hb : t.get b = some c) (hp : ι b = some p) (hs : b + 1 < 2 ^ deep) (hf : ι nb = none) (hs' : nb + 1 < 2 ^ deep)
    (ho : ObjIs (ι.add nb p) p.2 c' o') (hw : SetAt w w' p.1 o') : Sat w' (stars [F, rep (ι.add nb p) ((t.del deep b).set deep nb c')]) := by
  obtain ⟨h, ⟨h1, h2, cc, xF, h3, h4, cd, ⟨xr, xi, xa⟩, xe⟩, rr, g⟩ := s
  have e3 : h2 = h3 := Hl.eq cd.r1.symm fun x => by
    have := xe x
    rcases cd.at_ x with ⟨a, e⟩ | ⟨a, e⟩ | ⟨o, a, e, _⟩ <;> simp_all
  subst e3
  obtain ⟨p0, o, hp0, _, ho0⟩ := xr b c hb
  rw [hp] at hp0; cases hp0
  have hF : h1 p.1 = none := by
    rcases cc.at_ p.1 with ⟨a, _⟩ | ⟨a, _⟩ | ⟨o, _, a, _⟩
    · exact a
    · rw [ho0] at a; cases a
    · rw [ho0] at a; cases a
  have ext : Ext ι (ι.add nb p) := Env.add_ext hf
  have conv : ∀ y cy, ((t.del deep b).set deep nb c').get y = some cy → (y = nb ∧ cy = c') ∨ (y ≠ nb ∧ y ≠ b ∧ t.get y = some cy) := fun y cy hy => by
    rw [Tri.get_set _ _ _ _ _ hs'] at hy
    by_cases e : y = nb
    · rw [if_pos e] at hy; cases hy; exact .inl ⟨e, rfl⟩
    · rw [if_neg e, Tri.get_del _ _ _ _ hs] at hy
      by_cases e' : y = b
      · rw [if_pos e'] at hy; cases hy
      · rw [if_neg e'] at hy; exact .inr ⟨e, e', hy⟩
  have apart : ∀ y cy q, t.get y = some cy → y ≠ b → ι y = some q → q.1 ≠ p.1 := fun y cy q hy hne hq hh => hne (xi y b cy c q p hy hb hq hp hh)
  refine ⟨⟨h.rest, fun x => if x = p.1 then some (true, o') else h x⟩, ⟨h1, ⟨h.rest, fun x => if x = p.1 then some (true, o') else h2 x⟩, ⟨cc.r1, rfl, fun x => ?_⟩, xF, _, ⟨h.rest, fun _ => none⟩, ⟨rfl, rfl, fun x => .inr (.inl ⟨rfl, rfl⟩)⟩, ⟨?_, ?_, ?_⟩, fun _ => rfl⟩, rr.trans hw.rest.symm, ?_⟩
  · by_cases e : x = p.1
    · subst e; exact .inl ⟨hF, by simp⟩
    · simpa [e] using cc.at_ x
  · intro y cy hy
    rcases conv y cy hy with ⟨rfl, rfl⟩ | ⟨n1, n2, hy'⟩
    · exact ⟨p, o', Env.add_self _ _ _, ho, by simp⟩
    · obtain ⟨q, o2, g1, g2, g3⟩ := xr y cy hy'
      exact ⟨q, o2, ext _ _ g1, g2.mono ext, by simpa [apart y cy q hy' n2 g1] using g3⟩
  · intro x y cx cy px py hx hy h1x h1y exy
    have back : ∀ z cz pz, t.get z = some cz → ι.add nb p z = some pz → ι z = some pz := fun z cz pz hz hp' => by
      obtain ⟨q, _, g1, _, _⟩ := xr z cz hz
      have := ext _ _ g1
      rw [this] at hp'; cases hp'; exact g1
    rcases conv x cx hx with ⟨rfl, rfl⟩ | ⟨n1, n2, hx'⟩ <;> rcases conv y cy hy with ⟨rfl, rfl⟩ | ⟨m1, m2, hy'⟩
    · rfl
    · rw [Env.add_self] at h1x; cases h1x
      exact absurd exy.symm (apart y cy py hy' m2 (back y cy py hy' h1y))
    · rw [Env.add_self] at h1y; cases h1y
      exact absurd exy (apart x cx px hx' n2 (back x cx px hx' h1x))
    · exact xi x y cx cy px py hx' hy' (back x cx px hx' h1x) (back y cy py hy' h1y) exy
  · intro id d hd
    have := xa id d hd
    have hne : d.block ≠ p.1 := fun e => by rw [e, ho0] at this; simp at this
    simpa [hne] using this
  · intro x f o2 hx
    rw [hw.at_]
    by_cases e : x = p.1
    · simp only [e, if_true, Option.some.injEq, Prod.mk.injEq] at hx ⊢
      exact hx.2
    · simp only [e, if_false] at hx ⊢; exact g _ _ _ hx

/-- The cells of a slice. -/
theorem sliceCells_ok {P : Program} {h : Hp} {k m : Nat} {x : SV} {l : List SV} (hh : sliceCells h k x = some (m, l)) {v : Value} (hv : den ι x = some v) (hd : HD ι h.t) :
    ∃ us, dens ι l = some us ∧ us.length = m * k ∧ ∀ w, Sat w (stars [rep ι h.t]) → (Builtin.lenOf v).run P w = .ok m w ∧ (Builtin.firstCells k m v).run P w = .ok us.toArray w := by
  unfold sliceCells at hh
  split at hh
  · simp at hh; obtain ⟨rfl, rfl⟩ := hh
    cases den_v hv
    exact ⟨[], rfl, by simp, fun w _ => ⟨rfl, rfl⟩⟩
  · simp at hh; obtain ⟨rfl, rfl⟩ := hh
    obtain ⟨p, hp, rfl⟩ := den_se hv
    refine ⟨[], rfl, by simp, fun w _ => ⟨rfl, ?_⟩⟩
    simp only [Builtin.firstCells, Nat.zero_mul]
    exact run_loadCells (fun j hj => by omega) rfl
  · rename_i b o len c
    split at hh
    rotate_left
    · cases hh
    rename_i ch hb
    split at hh
    rotate_left
    · cases hh
    rename_i cs hcs
    split at hh
    rotate_left
    · cases hh
    rename_i l' hl
    simp at hh; obtain ⟨rfl, rfl⟩ := hh
    obtain ⟨p, hp, rfl⟩ := den_sl hv
    have hc : cellsOf h.t b = some cs := by unfold cellsOf; rw [hb]; exact hcs
    obtain ⟨p', vs, e1, e2⟩ := hd.cells hc
    rw [hp] at e1; cases e1
    obtain ⟨g1, g2, g3⟩ := takeS_den (dropS_den e2) hl
    have hlen : ((vs.drop o).take (len * k)).length = len * k := by simp at g2 ⊢; omega
    refine ⟨_, g1, hlen, fun w s => ⟨rfl, ?_⟩⟩
    obtain ⟨p', vs', e1, e3, e4⟩ := rep_cells s hc
    rw [hp] at e1; cases e1
    rw [e2] at e3; cases e3
    simp only [Builtin.firstCells]
    exact run_loadCells (fun j hj => e4 o (len * k) j (by rw [hlen]; exact hj)) hlen
  · cases hh

/-- What an append comes to. -/
def AppOK (P : Program) (T T2 : TypeId) (ι0 ι : Env) (F : HP) (h h' : Hp) (r : SV) (sv xv : Value) : Prop :=
  ∀ w, Sat w (stars [F, rep ι h.t]) → Good ι0 ι h → ∃ ι' v w', Good ι0 ι' h' ∧ Ext ι ι' ∧ den ι' r = some v ∧ (Builtin.append_ #[T, T2] T #[sv, xv]).run P w = .ok v w' ∧ Sat w' (stars [F, rep ι' h'.t])

theorem zero_len {z : Value} {m k : Nat} (h : z.cells.size = k) : (Builtin.zeroCells z.cells m).toList.length = m * k := by simp [Builtin.zeroCells, h]

section
variable {P : Program} {ρ : Option Nat} {T T2 e e2 k by_ m : Nat} {ι0 : Env} {h : Hp} {new : List SV} {us : List Value} {xv z : Value}

/-- Into a new block. -/
theorem app_new (he : P.underlying T = some (.slice e)) (he2 : P.underlying T2 = some (.slice e2)) (hk : ∀ w, (sizeOf e).run P w = .ok k w) (hby : BY P e by_) (hz : ∀ w, (zeroValue e).run P w = .ok z w) (hzs : z.cells.size = k)
    (hb0 : 0 < by_) (hok : h.ok = true) (hn : dens ι new = some us) (hl : us.length = m * k) {oa : Option Addr} {n c : Nat} {old : List SV} {os : List Value} (ho : dens ι old = some os) (hol : os.length = n * k)
    (hsrc : ∀ w, Sat w (stars [rep ι h.t]) → (Builtin.lenOf xv).run P w = .ok m w ∧ (Builtin.firstCells k m xv).run P w = .ok us.toArray w)
    (hold : ∀ w, Sat w (stars [rep ι h.t]) → (Builtin.firstCells k n (.slice oa n c)).run P w = .ok os.toArray w) (hroom : ¬ n + m ≤ c) (hb : (n + m) * by_ ≤ 140737488355328) :
    AppOK P T T2 ι0 ι F h (h.add (.more e k (old ++ new))) (.sl h.next 0 (n + m) (.left 0)) (.slice oa n c) xv := by
  intro w s g
  have s1 := rep_frame s
  have hrun := run_append_new (P := P) (w := w) (oa := oa) (c := c) he he2 hk hby hz (hsrc w s1).1 (fun w' hw' => (hsrc w' (s1.heap hw')).2) (fun w' hw' => hold w' (s1.heap hw')) hroom hb hb0
  have hnc : n + m ≤ grownCap w (n + m) c e := by simp only [grownCap, Question.cut]; omega
  have hf := g.fresh _ (Nat.le_refl _)
  have ext : Ext ι (ι.add h.next (w.heap.size, grownCap w (n + m) c e)) := Env.add_ext hf
  have hsm : h.next + 2 < 2 ^ deep := by
    have : h.next < 1000000000000 := by simpa [Hp.ok, Nat.blt_eq] using hok
    show h.next + 2 < 1099511627776
    omega
  refine ⟨_, _, _, ⟨g.ext.trans ext, fun b hb => ?_, hsm⟩, ext, ?_, hrun, rep_new (s.heap .drew) hf g.small (c := .more e k (old ++ new)) ?_ .alloc⟩
  · have hb' : h.next + 1 ≤ b := hb
    simp only [Env.add, if_neg (show b ≠ h.next by omega)]
    exact g.fresh b (by omega)
  · simp [den, Env.add_self, capD]
  · refine ⟨os ++ us, (Builtin.zeroCells z.cells (grownCap w (n + m) c e - (n + m))).toList, dens_append (dens_mono ext ho) (dens_mono ext hn), ?_, ?_⟩
    · congr 1; apply Array.ext'; simp
    · rw [zero_len hzs]
      simp only [List.length_append, hl, hol]
      rw [← Nat.add_mul, ← Nat.add_mul]
      congr 1; omega

theorem roomS_ok {n m o k : Nat} {c : Cp} {ch : Ch} {r : Option Bool} (h : roomS n m o k c ch = some r) :
    (r = some true ∧ ((∃ cp, c = .known cp ∧ n + m ≤ cp) ∨ ∃ q T cs, c = .left q ∧ ch = .more T k cs ∧ (n + m + q) * k ≤ cs.length)) ∨ (r = some false ∧ ∃ cp, c = .known cp ∧ ¬ n + m ≤ cp) ∨
      (r = none ∧ ∃ T cs, c = .left 0 ∧ ch = .more T k cs ∧ o = 0 ∧ n * k = cs.length) := by
  unfold roomS at h
  split at h
  · rename_i cp
    simp only [Option.some.injEq] at h
    subst h
    cases hq : Nat.ble (n + m) cp with
    | true => exact .inl ⟨rfl, .inl ⟨cp, rfl, Nat.le_of_ble_eq_true hq⟩⟩
    | false => exact .inr (.inl ⟨rfl, cp, rfl, fun hh => by rw [Nat.ble_eq_true_of_le hh] at hq; cases hq⟩)
  · rename_i q T sz cs
    cases hq : Nat.beq sz k with
    | false => rw [hq] at h; cases h
    | true =>
      have := Nat.eq_of_beq_eq_true hq
      subst this
      rw [hq, cond_true] at h
      cases h2 : Nat.ble ((n + m + q) * sz) cs.length with
      | true =>
        rw [h2] at h; cases h
        exact .inl ⟨rfl, .inr ⟨q, T, cs, rfl, rfl, Nat.le_of_ble_eq_true h2⟩⟩
      | false =>
        rw [h2, cond_false] at h
        cases h3 : (Nat.beq o 0 && Nat.beq (n * sz) cs.length && Nat.beq q 0) with
        | false => rw [h3] at h; cases h
        | true =>
          rw [h3] at h; cases h
          simp only [Bool.and_eq_true] at h3
          have e1 := Nat.eq_of_beq_eq_true h3.1.1
          have e2 := Nat.eq_of_beq_eq_true h3.1.2
          have e3 := Nat.eq_of_beq_eq_true h3.2
          subst e1 e3
          exact .inr (.inr ⟨rfl, T, cs, rfl, rfl, rfl, e2⟩)
  · cases h

theorem appendAt_ok (he : P.underlying T = some (.slice e)) (he2 : P.underlying T2 = some (.slice e2)) (hk : ∀ w, (sizeOf e).run P w = .ok k w) (hby : BY P e by_) (hz : ∀ w, (zeroValue e).run P w = .ok z w) (hzs : z.cells.size = k)
    (hk0 : 0 < k) (hb0 : 0 < by_) (hok : h.ok = true) (hn : dens ι new = some us) (hl : us.length = m * k) (hone : us.all Value.oneCell' = true) {b o n : Nat} {c : Cp} {sv : Value}
    (hsrc : ∀ w, Sat w (stars [rep ι h.t]) → (Builtin.lenOf xv).run P w = .ok m w ∧ (Builtin.firstCells k m xv).run P w = .ok us.toArray w) (hd : HD ι h.t)
    {r : SV} {h' : Hp} (hh : appendAt h e k by_ b o n c m new = some (r, h')) (hv : den ι (.sl b o n c) = some sv) : AppOK P T T2 ι0 ι F h h' r sv xv := by
  unfold appendAt at hh
  split at hh
  rotate_left
  · cases hh
  rename_i ch hb
  obtain ⟨p, hp, rfl⟩ := den_sl hv
  obtain ⟨p', ob, e1, e2'⟩ := hd b ch hb
  rw [hp] at e1; cases e1
  split at hh
  · -- in place
    rename_i cs hcs hroom
    split at hh
    rotate_left
    · cases hh
    rename_i cs' hsp
    simp only [Option.some.injEq, Prod.mk.injEq] at hh
    obtain ⟨rfl, rfl⟩ := hh
    obtain ⟨vs, sp, T', f1, f2⟩ := cs_obj hcs e2'
    obtain ⟨g1, g2⟩ := spliceS_den f1 hn hsp
    have hcap : n + m ≤ capD c p.2 := by
      rcases roomS_ok hroom with ⟨_, ⟨cp, rfl, hr⟩ | ⟨q, T'', cs'', rfl, rfl, hr⟩⟩ | ⟨hr, _⟩ | ⟨hr, _⟩
      · exact hr
      · obtain ⟨vs', sp', k1, k2, k3⟩ := e2'
        have h2 := dens_len k1
        have : (n + m + q) * k ≤ p.2 * k := by omega
        have := Nat.le_of_mul_le_mul_right this hk0
        simp only [capD]; omega
      · cases hr
      · cases hr
    intro w s g
    have s1 := rep_frame s
    obtain ⟨p', o', k1, k2, k3⟩ := rep_get s1 hb
    rw [hp] at k1; cases k1
    obtain ⟨vs', sp', T'', m1, m2, m3⟩ := setCs_obj hcs k2 g1
    rw [f1] at m1; cases m1
    subst m2
    have hrun := run_storeCells (P := P) (b := p.1) (o := o + n * k) us 0 w (vs ++ sp') k3 (by simp; omega) hone
    simp only [Nat.add_zero] at hrun
    have e4 : (vs ++ sp').take (o + n * k) ++ us ++ (vs ++ sp').drop (o + n * k + us.length) = vs.take (o + n * k) ++ us ++ vs.drop (o + n * k + us.length) ++ sp' := by
      rw [List.take_append_of_le_length (by omega), List.drop_append_of_le_length (by omega)]; simp
    rw [e4] at hrun
    have hap := run_append_room (P := P) (w := w) (oa := some ⟨p.1, o, none⟩) (c := capD c p.2) (n1 := n) he he2 hk (hsrc w s1).1 (hsrc w s1).2 hcap (fun a ha => by cases ha; rw [add_none]; exact hrun) (fun h => by cases h)
    have hlt : b < h.next := by
      rcases Nat.lt_or_ge b h.next with h' | h'
      · exact h'
      · rw [g.fresh b h'] at hp; cases hp
    exact ⟨ι, _, _, ⟨g.ext, g.fresh, g.small⟩, .refl ι, by simp [den, hp], hap, rep_set s hb hp (by have := g.small; omega) (m3 (by simp; omega)) (setB_at k3)⟩
  · -- anew
    rename_i cs hcs hroom
    split at hh
    rotate_left
    · cases hh
    rename_i old ho
    cases hq : overB (n + m) by_ with
    | false => simp [hq] at hh
    | true =>
      simp only [hq, cond_true, Option.some.injEq, Prod.mk.injEq] at hh
      obtain ⟨rfl, rfl⟩ := hh
      have hbb : (n + m) * by_ ≤ 140737488355328 := Nat.le_of_ble_eq_true hq
      have hc : cellsOf h.t b = some cs := by unfold cellsOf; rw [hb]; exact hcs
      obtain ⟨p', vs, q1, q2⟩ := hd.cells hc
      rw [hp] at q1; cases q1
      obtain ⟨g1, g2, g3⟩ := takeS_den (dropS_den q2) ho
      have hlen : ((vs.drop o).take (n * k)).length = n * k := by simp at g2 ⊢; omega
      have hcap : ¬ n + m ≤ capD c p.2 := by
        rcases roomS_ok hroom with ⟨hr, _⟩ | ⟨_, cp, rfl, hr⟩ | ⟨hr, _⟩
        · cases hr
        · exact hr
        · cases hr
      refine app_new he he2 hk hby hz hzs hb0 hok hn hl g1 hlen hsrc (fun w s => ?_) hcap hbb
      obtain ⟨p', vs', e1, e3, e4⟩ := rep_cells s hc
      rw [hp] at e1; cases e1
      rw [q2] at e3; cases e3
      simp only [Builtin.firstCells]
      exact run_loadCells (fun j hj => e4 o (n * k) j (by rw [hlen]; exact hj)) hlen
  · -- it is not told
    rename_i cs hcs hroom
    split at hh
    rotate_left
    · cases hh
    rename_i e' sz cs0
    cases hq : (Nat.beq e e' && overB (n + m) by_) with
    | false => simp [hq] at hh
    | true =>
      simp only [hq, cond_true, Option.some.injEq, Prod.mk.injEq] at hh
      simp only [Bool.and_eq_true] at hq
      have hee := Nat.eq_of_beq_eq_true hq.1
      subst hee
      have hbb : (n + m) * by_ ≤ 140737488355328 := Nat.le_of_ble_eq_true hq.2
      obtain ⟨rfl, rfl⟩ := hh
      rcases roomS_ok hroom with ⟨hr, _⟩ | ⟨hr, _⟩ | ⟨_, T'', cs'', rfl, e3, rfl, hlen⟩
      · cases hr
      · cases hr
      cases e3
      simp only [Ch.cs?, Option.some.injEq] at hcs; subst hcs
      obtain ⟨vs, sp, k1, k2, k3⟩ := e2'
      have hvl := dens_len k1
      intro w s g
      have s1 := rep_frame s
      have hlt : b < h.next := by
        rcases Nat.lt_or_ge b h.next with h' | h'
        · exact h'
        · rw [g.fresh b h'] at hp; cases hp
      have hsm : h.next + 2 < 2 ^ deep := by
        have : h.next < 1000000000000 := by simpa [Hp.ok, Nat.blt_eq] using hok
        show h.next + 2 < 1099511627776
        omega
      have hf := g.fresh _ (Nat.le_refl _)
      by_cases hin : n + m ≤ p.2
      · -- in place
        obtain ⟨p', o', q1, q2, q3⟩ := rep_get s1 hb
        rw [hp] at q1; cases q1
        obtain ⟨vs', sp', r1, r2, r3⟩ := q2
        rw [k1] at r1; cases r1
        subst r2
        have hnm : (n + m) * k ≤ p.2 * k := Nat.mul_le_mul_right _ hin
        rw [Nat.add_mul] at hnm
        have hrun := run_storeCells (P := P) (b := p.1) (o := 0 + n * k) us 0 w (vs ++ sp') q3 (by simp; omega) hone
        simp only [Nat.add_zero, Nat.zero_add] at hrun
        have e4 : (vs ++ sp').take (n * k) ++ us ++ (vs ++ sp').drop (n * k + us.length) = (vs ++ us) ++ sp'.drop us.length := by
          have : n * k = vs.length := by omega
          rw [this, List.take_append_of_le_length (Nat.le_refl _), List.take_length, List.drop_length_add_append]
        rw [e4] at hrun
        have hap := run_append_room (P := P) (w := w) (oa := some ⟨p.1, 0, none⟩) (c := capD (.left 0) p.2) (n1 := n) he he2 hk (hsrc w s1).1 (hsrc w s1).2 (by simpa [capD] using hin) (fun a ha => by cases ha; rw [add_none, Nat.zero_add]; exact hrun) (fun h => by cases h)
        have ext : Ext ι (ι.add h.next p) := Env.add_ext hf
        refine ⟨_, _, _, ⟨g.ext.trans ext, fun b' hb' => ?_, hsm⟩, ext, ?_, hap, rep_rename s hb hp (by have := g.small; omega) hf g.small ⟨vs ++ us, sp'.drop us.length, dens_append (dens_mono ext k1) (dens_mono ext hn), rfl, ?_⟩ (setB_at q3)⟩
        · have hb'' : h.next + 1 ≤ b' := hb'
          simp only [Env.add, if_neg (show b' ≠ h.next by omega)]
          exact g.fresh b' (by omega)
        · simp [den, Env.add_self, capD]
        · simp; omega
      · -- anew
        have s2 := rep_del s (b := b) (by have := g.small; omega)
        have hsrc2 := hsrc w s1
        have hrun := run_append_new (P := P) (w := w) (oa := some ⟨p.1, 0, none⟩) (c := capD (.left 0) p.2) (n1 := n) (olds := vs.toArray) he he2 hk hby hz hsrc2.1 (fun w' hw' => (hsrc w' (s1.heap hw')).2) (fun w' hw' => by
          obtain ⟨p', o', q1, q2, q3⟩ := rep_get (s1.heap hw') hb
          rw [hp] at q1; cases q1
          obtain ⟨vs', sp', r1, r2, r3⟩ := q2
          rw [k1] at r1; cases r1
          subst r2
          simp only [Builtin.firstCells]
          refine run_loadCells (fun j hj => ?_) (by omega)
          rw [cell_of_heap q3, Nat.zero_add, List.getElem?_append_left (by omega)]) (by simpa [capD] using hin) hbb hb0
        have hnc : n + m ≤ grownCap w (n + m) (capD (.left 0) p.2) e := by simp only [grownCap, Question.cut]; omega
        have ext : Ext ι (ι.add h.next (w.heap.size, grownCap w (n + m) (capD (.left 0) p.2) e)) := Env.add_ext hf
        refine ⟨_, _, _, ⟨g.ext.trans ext, fun b' hb' => ?_, hsm⟩, ext, ?_, hrun, rep_new s2 hf g.small (c := .more e k (cs0 ++ new)) ⟨vs ++ us, (Builtin.zeroCells z.cells (grownCap w (n + m) (capD (.left 0) p.2) e - (n + m))).toList, dens_append (dens_mono ext k1) (dens_mono ext hn), ?_, ?_⟩ ⟨rfl, rfl⟩⟩
        · have hb'' : h.next + 1 ≤ b' := hb'
          simp only [Env.add, if_neg (show b' ≠ h.next by omega)]
          exact g.fresh b' (by omega)
        · simp [den, Env.add_self, capD]
        · congr 1; apply Array.ext'; simp
        · rw [zero_len hzs]
          simp only [List.length_append, hl]
          rw [show vs.length = n * k by omega, ← Nat.add_mul, ← Nat.add_mul]
          congr 1; omega
  · cases hh

theorem appendTo_ok (he : P.underlying T = some (.slice e)) (he2 : P.underlying T2 = some (.slice e2)) (hk : ∀ w, (sizeOf e).run P w = .ok k w) (hby : BY P e by_) (hz : ∀ w, (zeroValue e).run P w = .ok z w) (hzs : z.cells.size = k)
    (hk0 : 0 < k) (hb0 : 0 < by_) (hok : h.ok = true) (hn : dens ι new = some us) (hl : us.length = m * k) (hone : us.all Value.oneCell' = true) {s : SV} {sv : Value}
    (hsrc : ∀ w, Sat w (stars [rep ι h.t]) → (Builtin.lenOf xv).run P w = .ok m w ∧ (Builtin.firstCells k m xv).run P w = .ok us.toArray w) (hd : HD ι h.t)
    {r : SV} {h' : Hp} (hh : appendTo h e k by_ m new s = some (r, h')) (hv : den ι s = some sv) : AppOK P T T2 ι0 ι F h h' r sv xv := by
  unfold appendTo at hh
  split at hh
  · cases den_v hv
    cases hm : Nat.beq m 0 with
    | true =>
      have := Nat.eq_of_beq_eq_true hm
      subst this
      simp only [hm, cond_true, Option.some.injEq, Prod.mk.injEq] at hh
      obtain ⟨rfl, rfl⟩ := hh
      intro w s g
      have hs := hsrc w (rep_frame s)
      exact ⟨ι, _, w, g, .refl ι, rfl, run_append_room (P := P) (w := w) (oa := none) (c := 0) (n1 := 0) he he2 hk hs.1 hs.2 (by omega) (fun a h => by cases h) (fun _ => rfl), s⟩
    | false =>
      simp only [hm, cond_false] at hh
      have hm0 := Nat.ne_of_beq_eq_false hm
      cases hq : overB m by_ with
      | false => simp [hq] at hh
      | true =>
        simp only [hq, cond_true, Option.some.injEq, Prod.mk.injEq] at hh
        obtain ⟨rfl, rfl⟩ := hh
        have hbb : m * by_ ≤ 140737488355328 := Nat.le_of_ble_eq_true hq
        have key := app_new (ι0 := ι0) (F := F) (h := h) he he2 hk hby hz hzs hb0 hok hn hl (oa := none) (n := 0) (c := 0) (old := []) (os := []) rfl (by simp) hsrc (fun w _ => rfl) (by omega) (by simpa using hbb)
        simpa using key
  · exact appendAt_ok he he2 hk hby hz hzs hk0 hb0 hok hn hl hone hsrc hd hh hv
  · cases hh

theorem appendS_ok (he2 : P.underlying T2 = some (.slice e2)) {s x r : SV} {sv : Value} {h' : Hp} (hd : HD ι h.t) (hh : appendS P T s x h = some (r, h')) (hs : den ι s = some sv) (hx : den ι x = some xv) : AppOK P T T2 ι0 ι F h h' r sv xv := by
  unfold appendS at hh
  split at hh
  rotate_left
  · cases hh
  rename_i e he
  split at hh
  rotate_left
  · cases hh
  rename_i k by_ z hk hby hz
  cases hq : (Nat.beq z.length k && Nat.blt 0 k && Nat.blt 0 by_ && h.ok) with
  | false => simp [hq] at hh
  | true =>
    simp only [hq, cond_true] at hh
    simp only [Bool.and_eq_true] at hq
    obtain ⟨⟨⟨q1, q2⟩, q3⟩, q4⟩ := hq
    have q1 := Nat.eq_of_beq_eq_true q1
    have q2 : 0 < k := by simpa [Nat.blt_eq] using q2
    have q3 : 0 < by_ := by simpa [Nat.blt_eq] using q3
    split at hh
    rotate_left
    · cases hh
    rename_i m new hc
    cases ho : allOne new with
    | false => simp [ho] at hh
    | true =>
      simp only [ho, cond_true] at hh
      obtain ⟨us, u1, u2, u3⟩ := sliceCells_ok (P := P) hc hx hd
      obtain ⟨zv, z1, z2⟩ := zeroT_ok hz
      subst z2
      obtain ⟨i, i1, i2⟩ := bytesT_ok hby
      exact appendTo_ok (sliceElem_ok he) he2 (fun w => sizeT_ok hk w) ⟨fun w => ⟨i, by simp [typeInfo, i1], i2⟩⟩ z1 (by simpa using q1) q2 q3 q4 u1 u2 (allOne_den ho u1) u3 hd hh hs

end
end Go.Ws
