/- ClientMakes' body: any rule, any list. -/
import Derived.Test.YtgdioloappbjkaaGreatLoop13
set_option linter.unusedSectionVars false
set_option linter.unusedVariables false
set_option linter.unusedSimpArgs false
namespace Go.Ws
open Go.Proofs Go.RowKit

theorem mk_same (r0 r1 r2 r3 r4 v : Int) : mkC r0 r1 r2 r3 r4 v = if mayQ r0 r1 r2 r3 r4 = true ∧ -2147483648 ≤ v ∧ v ≤ 2147483647 then mkD r3 r4 v else 0 := by
  have h : mkC r0 r1 r2 r3 r4 v = bif mayQ r0 r1 r2 r3 r4 then (bif decide (v < -2147483648) then 0 else bif decide (v > 2147483647) then 0 else mkD r3 r4 v) else 0 := by
    unfold mkC mayQ mkD
    cases decide (r0 ≥ 0) <;> cases decide (r0 < 4) <;> cases decide (r1 ≥ 0) <;> cases decide (r1 < 4) <;> cases decide (r2 ≥ 0) <;> cases decide (r2 < 4) <;> cases (r1 != r2) <;> cases decide (r3 ≥ -65536) <;> cases decide (r3 ≤ 65536) <;> cases decide (r4 ≥ -65536) <;> cases decide (r4 ≤ 65536) <;> rfl
  rw [h]
  cases mayQ r0 r1 r2 r3 r4 with
  | false => simp
  | true =>
    simp only [cond_true, Bool.cond_eq_ite, decide_eq_true_eq, true_and]
    by_cases h1 : v < -2147483648
    · rw [if_pos h1]; exact (if_neg (by omega)).symm
    · rw [if_neg h1]
      by_cases h2 : v > 2147483647
      · rw [if_pos h2]; exact (if_neg (by omega)).symm
      · rw [if_neg h2]; exact (if_pos (by omega)).symm

theorem w64_next (i : Nat) (h : i < 9223372036854775806) : w64 ((i : Int) + 1) = ((i + 1 : Nat) : Int) := by
  simp [w64, IntKind.wrap, IntKind.signed, IntKind.bits]
  omega

theorem small4 : Tryz.f4.ntmps = 48 := Tryz.ntmps4

section
variable (bl off n cp : Nat) (ob : Obj) (x : Nat → Int) (okp : ∃ cs T z, ob = .cells cs T z ∧ ∀ (i j : Nat) (k : IntKind), i < n → [IntKind.i64][j]? = some k → cs[off + i * [IntKind.i64].length + j]? = some (.int k ((fun (i _ : Nat) => x i) i j)))
variable (r0 r1 r2 r3 r4 : Int)

theorem makes_long : ifTrue (@callM (arr1 (list1 bl off n cp ob x okp)) (.fn 4) [ruleS r0 r1 r2 r3 r4, .asl 0] ⟨.leaf, 0, [true], []⟩) = [(decide ((n : Int) > 20), true)] := by kernel_rfl
theorem makes_nil : ifTrue (callM (.fn 4) [ruleS r0 r1 r2 r3 r4, .v (.slice none 0 0)] ⟨.leaf, 0, [], []⟩) = [] := by kernel_rfl

/-- What is looked at of several texts. -/
def viewR (ks bs : List Nat) : Option St → Option (List (Option SV) × List (Option Ch) × List (Bool × Bool) × Bool)
  | some st => some (ks.map (lookS st.regs), bs.map st.hp.t.get, st.hp.conds, st.defs.isEmpty)
  | none => none

theorem makes_pre : viewR [1, 2, 4, 5] [0] (@runs (arr1 (list1 bl off n cp ob x okp)) Tryz.prog (@callM (arr1 (list1 bl off n cp ob x okp))) 48 plansOf 4 30 [m4a, m4b, m4c] ⟨regsS 0 [ruleS r0 r1 r2 r3 r4, .asl 0], ⟨.leaf, 0, [false], []⟩, []⟩) =
    some ([some (.asl 0), some (.ptr 0 0), some (.v (.bool false)), some (.v (.int .i64 0))], [some (.cells 69 [.si .i64 r0, .si .i64 r1, .si .i64 r2, .si .i64 r3, .si .i64 r4])], [(decide ((n : Int) > 20), false)], true) := by kernel_rfl

/-- What the tail yields. -/
def tailR : Option (Ex × St) → Option (Option SV × List (Bool × Bool) × Bool)
  | some (.ret, st) => some (lookS st.regs 4, st.hp.conds, st.defs.isEmpty)
  | _ => none
theorem makes_tail : tailR (run4 bl off n cp ob x okp m4t ((⟨[], [], 1⟩ : LSt).st [])) = some (some (.v (.bool true)), [], true) := by kernel_rfl

theorem S4_ok (i : Nat) : (S4 r0 r1 r2 r3 r4 i).ok = true := rfl

/-- One round goes on. -/
theorem round_on {F : HP} {i : Nat} (hi : i < n) (hn : n ≤ 20) (Q : Exit → Act → World → Prop) (k : @JS (arr1 (list1 bl off n cp ob x okp)) 48 F noNames ((S4 r0 r1 r2 r3 r4 (i + 1)).st []) (Q .normal)) :
    @JS (arr1 (list1 bl off n cp ob x okp)) 48 F noNames ((S4 r0 r1 r2 r3 r4 i).st []) (m4l.wpIn (Fc none) 0 Tryz.prog Q) := by
  letI A := arr1 (list1 bl off n cp ob x okp)
  have ok : codeOK (plansOf 4) m4l = true := by
    have := plansOK 4 Tryz.f4 _ Tryz.func4 m4_body
    simp only [codeOK, Bool.and_eq_true] at this
    exact this.2.2.1.2
  have fin : ∀ {ask : List Bool} {l : List (Bool × Bool)}, viewL [1, 2, 4, 5] [0] (run4 bl off n cp ob x okp m4l ((S4 r0 r1 r2 r3 r4 i).st ask)) =
      some (.normal, [some (.asl 0), some (.ptr 0 0), some (.v (.bool false)), some (.si .i64 (w64 (i + 1)))], [some (.cells 69 [.si .i64 r0, .si .i64 r1, .si .i64 r2, .si .i64 r3, .si .i64 r4])], l, true) →
      (∀ y ∈ l, y.1 = y.2) → JS 48 F noNames ((S4 r0 r1 r2 r3 r4 i).st []) (m4l.wpIn (Fc none) 0 Tryz.prog Q) := by
    intro ask l h hl
    obtain ⟨st, h1, h2, h3, h4, h5⟩ := viewL_ok h
    refine JS_ask (a := ask) (codeJ_ok callM_ok mixed (by decide) 0 m4l ok (.inl rfl) h1 (fun y hy => hl y (h4 ▸ hy)) ?_)
    refine JS_forget (S4_ok r0 r1 r2 r3 r4 (i + 1)) ?_ ?_ h5 (fun _ _ => rfl) k
    · simp only [List.map_cons, List.map_nil, List.cons.injEq, and_true] at h2
      obtain ⟨g1, g2, g3, g4⟩ := h2
      intro p hp
      simp only [S4, List.mem_cons, List.not_mem_nil, or_false] at hp
      rcases hp with rfl | rfl | rfl | rfl
      · exact ⟨_, g1, .refl _⟩
      · exact ⟨_, g2, .refl _⟩
      · exact ⟨_, g3, .refl _⟩
      · exact ⟨_, g4, .si (w64_next i (by omega))⟩
    · simp only [List.map_cons, List.map_nil, List.cons.injEq, and_true] at h3
      intro p hp
      simp only [S4, List.mem_cons, List.not_mem_nil, or_false] at hp
      subst hp
      exact h3
  have hin : inB n i = true := by simp only [inB, decide_eq_true_eq]; omega
  have hlt : decide ((i : Int) < n) = true := by simp only [decide_eq_true_eq]; omega
  have hs := mk_same r0 r1 r2 r3 r4 (xi x i)
  cases hm : mayQ r0 r1 r2 r3 r4 with
  | false =>
    refine fin (round_not bl off n cp ob x okp r0 r1 r2 r3 r4 i) ?_
    rw [hm] at hs
    simp only [Bool.false_eq_true, false_and, if_false] at hs
    simp only [List.forall_mem_cons, hin, hlt, hm, hs]
    simp
  | true =>
    by_cases h1 : xi x i ≥ -2147483648
    · by_cases h2 : xi x i ≤ 2147483647
      · refine fin (round_all bl off n cp ob x okp r0 r1 r2 r3 r4 i) ?_
        rw [if_pos ⟨hm, h1, h2⟩] at hs
        simp only [List.forall_mem_cons, hin, hlt, hm, hs, decide_eq_true h1, decide_eq_true h2]
        simp
      · refine fin (round_high bl off n cp ob x okp r0 r1 r2 r3 r4 i) ?_
        rw [if_neg (fun h => h2 h.2.2)] at hs
        simp only [List.forall_mem_cons, hin, hlt, hm, hs, decide_eq_true h1, decide_eq_false h2]
        simp
    · refine fin (round_low bl off n cp ob x okp r0 r1 r2 r3 r4 i) ?_
      rw [if_neg (fun h => h1 h.2.1)] at hs
      simp only [List.forall_mem_cons, hin, hlt, hm, hs, decide_eq_false h1]
      simp

/-- The last round. -/
theorem round_off {F : HP} (Q : Exit → Act → World → Prop) (k : @JS (arr1 (list1 bl off n cp ob x okp)) 48 F noNames ((⟨[], [], 1⟩ : LSt).st []) (Q (.exit 0))) :
    @JS (arr1 (list1 bl off n cp ob x okp)) 48 F noNames ((S4 r0 r1 r2 r3 r4 n).st []) (m4l.wpIn (Fc none) 0 Tryz.prog Q) := by
  letI A := arr1 (list1 bl off n cp ob x okp)
  have ok : codeOK (plansOf 4) m4l = true := by
    have := plansOK 4 Tryz.f4 _ Tryz.func4 m4_body
    simp only [codeOK, Bool.and_eq_true] at this
    exact this.2.2.1.2
  obtain ⟨st, h1, h2, h3, h4, h5⟩ := viewL_ok (round_exit bl off n cp ob x okp r0 r1 r2 r3 r4 n)
  refine JS_ask (a := [false]) (codeJ_ok callM_ok mixed (by decide) 0 m4l ok (.inl rfl) h1 (fun y hy => ?_) ?_)
  · rw [h4] at hy
    simp at hy
    subst hy
    simp
  · exact JS_forget (s := ⟨[], [], 1⟩) rfl (fun p hp => by cases hp) (fun p hp => by cases hp) h5 (fun _ _ => rfl) k

theorem runs_snoc [A : Arrs] {P : Program} {call : CallR} {n : Nat} {plans : FuncId → Plans} {fid : FuncId} {fuel : Nat} {c : Code} : ∀ {l : List Code} {st st' : St}, runs P call n plans fid fuel (l ++ [c]) st = some st' → ∃ st2, runs P call n plans fid fuel l st = some st2 ∧ codeJ P call n plans fid fuel 0 c st2 = some (.normal, st')
  | [], st, st', h => by
    simp only [List.nil_append, runs] at h
    split at h
    · rename_i h1; simp only [Option.some.injEq] at h; subst h; exact ⟨st, rfl, h1⟩
    · cases h
  | d :: l, st, st', h => by
    simp only [List.cons_append, runs] at h
    split at h
    · rename_i st1 h1
      obtain ⟨st2, g1, g2⟩ := runs_snoc h
      exact ⟨st2, by simp only [runs, h1, g1], g2⟩
    · cases h

theorem viewR_ok [A : Arrs] {ks bs : List Nat} {x : Option St} {rs : List (Option SV)} {cs : List (Option Ch)} {l : List (Bool × Bool)} (h : viewR ks bs x = some (rs, cs, l, true)) :
    ∃ st, x = some st ∧ ks.map (lookS st.regs) = rs ∧ bs.map st.hp.t.get = cs ∧ st.hp.conds = l ∧ st.defs = [] := by
  unfold viewR at h
  split at h
  rotate_left
  · cases h
  rename_i st
  simp only [Option.some.injEq, Prod.mk.injEq] at h
  obtain ⟨h1, h2, h3, h4⟩ := h
  exact ⟨st, rfl, h1, h2, h3, by simpa using h4⟩

theorem tailR_ok [A : Arrs] {x : Option (Ex × St)} {v : SV} (h : tailR x = some (some v, [], true)) : ∃ st, x = some (.ret, st) ∧ lookS st.regs 4 = some v ∧ st.hp.conds = [] ∧ st.defs = [] := by
  unfold tailR at h
  split at h
  rotate_left
  · cases h
  rename_i st
  simp only [Option.some.injEq, Prod.mk.injEq] at h
  obtain ⟨h1, h2, h3⟩ := h
  exact ⟨st, rfl, h1, h2, by simpa using h3⟩

/-- A list of at most twenty. -/
theorem makes_short {F : HP} {W : World} (hro : @RoF (arr1 (list1 bl off n cp ob x okp)) F) (s : Sat W F) (hn : n ≤ 20) :
    Calls Tryz.prog 4 #[ruleV r0 r1 r2 r3 r4, .slice (some ⟨bl, off, none⟩) n cp] W fun e w' => e = .returned (.bool true) ∧ Sat w' F := by
  letI A := arr1 (list1 bl off n cp ob x okp)
  have ok := plansOK 4 Tryz.f4 _ Tryz.func4 m4_body
  have ok' := ok
  simp only [codeOK, Bool.and_eq_true] at ok
  obtain ⟨oka, okb, ⟨okc, okl⟩, okt⟩ := ok
  have hlt : Tryz.f4.ntmps < 100000 := by rw [Tryz.ntmps4]; decide
  refine calls_of_js (args := [ruleS r0 r1 r2 r3 r4, .asl 0]) (vs := [ruleV r0 r1 r2 r3 r4, .slice (some ⟨bl, off, none⟩) n cp]) Tryz.func4 m4_body hlt (by rw [Tryz.ntmps4]; simp) rfl hro s ?_
  rw [Tryz.ntmps4]
  generalize hQ0 : bodyQ Tryz.prog Tryz.f4 (fun e w' => e = .returned (.bool true) ∧ Sat w' F) = Q0
  obtain ⟨st3, h1, h2, h3, h4, h5⟩ := viewR_ok (makes_pre bl off n cp ob x okp r0 r1 r2 r3 r4)
  obtain ⟨st2, g1, g2⟩ := runs_snoc (l := [m4a, m4b]) h1
  have ho3 : Holds st3.hp := fun y hy => by
    rw [h4] at hy
    simp at hy
    subst hy
    simp; omega
  have ho2 : Holds st2.hp := (codeJ_grows callM_ok 0 m4c g2).holds ho3
  have tail : JS 48 F noNames ((⟨[], [], 1⟩ : LSt).st []) (m4t.wpIn (Fc none) 0 Tryz.prog Q0) := by
    obtain ⟨st, t1, t2, t3, t4⟩ := tailR_ok (makes_tail bl off n cp ob x okp)
    rw [← hQ0]
    refine end_ok (res := [.v (.bool true)]) callM_ok mixed (by decide) okt rfl t1 (fun y hy => by rw [t3] at hy; cases hy) (.inl rfl) t4 ?_ ?_
    · rw [Tryz.results4]
      simp [resSs, resS, t2]
    · intro ι vv w g hv sw
      simp only [oneOf, den, Option.some.injEq] at hv
      exact ⟨by rw [← hv], sw.ent .dropr⟩
  have loop : JS 48 F noNames ((S4 r0 r1 r2 r3 r4 0).st []) ((Code.block 0 (.loop m4l)).wpIn (Fc none) 0 Tryz.prog (Exit.then (m4t.wpIn (Fc none) 0 Tryz.prog Q0) Q0)) := by
    refine JS_mono (G := (Code.loop m4l).wpIn (Fc none) 0 Tryz.prog (Exit.inBlock 0 (Exit.then (m4t.wpIn (Fc none) 0 Tryz.prog Q0) Q0))) ?_ (fun a w g => wpIn_block g)
    refine JS_loop (S4 r0 r1 r2 r3 r4) n (fun i hi Q' k _ => round_on bl off n cp ob x okp r0 r1 r2 r3 r4 hi hn Q' k) (fun Q' hq => round_off bl off n cp ob x okp r0 r1 r2 r3 r4 Q' ?_)
    rw [hq (.exit 0) (by simp)]
    exact tail
  have start := runs_ok (Q := Q0) (F := F) (ι0 := noNames) (rest := .seq (.seq m4c (.block 0 (.loop m4l))) m4t) callM_ok mixed (by decide) (l := [m4a, m4b]) ok' (.inl rfl) g1 ho2 ?_
  · exact fun ι rs ds g R hD => start ι rs ds ⟨g.ext, g.fresh, g.small⟩ R hD
  · have hk2 : Kind none st2.defs := runs_kind (.inl rfl) g1
    refine JS_mono (G := m4c.wpIn (Fc none) 0 Tryz.prog (Exit.then ((Code.block 0 (.loop m4l)).wpIn (Fc none) 0 Tryz.prog (Exit.then (m4t.wpIn (Fc none) 0 Tryz.prog Q0) Q0)) (Exit.then (m4t.wpIn (Fc none) 0 Tryz.prog Q0) Q0))) ?_ (fun a w g => wpIn_seq (wpIn_seq g))
    refine codeJ_ok callM_ok mixed (by decide) 0 m4c okc hk2 g2 ho3 ?_
    refine JS_forget (S4_ok r0 r1 r2 r3 r4 0) ?_ ?_ h5 (fun _ _ => rfl) loop
    · simp only [List.map_cons, List.map_nil, List.cons.injEq, and_true] at h2
      obtain ⟨q1, q2, q3, q4⟩ := h2
      intro p hp
      simp only [S4, List.mem_cons, List.not_mem_nil, or_false] at hp
      rcases hp with rfl | rfl | rfl | rfl
      · exact ⟨_, q1, .refl _⟩
      · exact ⟨_, q2, .refl _⟩
      · exact ⟨_, q3, .refl _⟩
      · exact ⟨_, q4, .vi rfl⟩
    · simp only [List.map_cons, List.map_nil, List.cons.injEq, and_true] at h3
      intro p hp
      simp only [S4, List.mem_cons, List.not_mem_nil, or_false] at hp
      subst hp
      exact h3

theorem makes_osl (oa : Option Addr) (m c : Nat) : ifTrue (callM (.fn 4) [ruleS r0 r1 r2 r3 r4, .osl oa m c] ⟨.leaf, 0, [true], []⟩) = [(decide ((m : Int) > 20), true)] := by kernel_rfl
theorem makes_none (oa : Option Addr) (m c : Nat) : ifTrue (callM (.fn 4) [ruleS r0 r1 r2 r3 r4, .osl oa m c] ⟨.leaf, 0, [false, false], []⟩) = [(decide ((0 : Int) < m), false), (decide ((m : Int) > 20), false)] := by kernel_rfl
end

/-- Any list of numbers that lies in the heap. -/
theorem makes13 (r0 r1 r2 r3 r4 : Int) {W : World} {oa : Option Addr} {m c : Nat} {x : Nat → Int} (hc : ∀ i, i < m → ∃ a, oa = some a ∧ W.cell? (a.add i) = some (.int .i64 (x i))) :
    Calls Tryz.prog 4 #[ruleV r0 r1 r2 r3 r4, .slice oa m c] W fun e w' => e = .returned (.bool true) ∧ Below W.heap.size W w' := by
  have fin : ∀ {p : List Bool} {l : List (Bool × Bool)}, ifTrue (callM (.fn 4) [ruleS r0 r1 r2 r3 r4, .osl oa m c] ⟨.leaf, 0, p, []⟩) = l → (∀ y ∈ l, y.1 = y.2) → Calls Tryz.prog 4 #[ruleV r0 r1 r2 r3 r4, .slice oa m c] W fun e w' => e = .returned (.bool true) ∧ Below W.heap.size W w' := by
    intro p l h hl
    obtain ⟨hp, h1, h2⟩ := ifTrue_ok (by rw [h]; exact hl)
    exact (calls_ret (vs := [ruleV r0 r1 r2 r3 r4, .slice oa m c]) callM_ok rfl h1 h2 roF_none (old_here W)).mono fun e w' ⟨h3, h4⟩ => ⟨h3, old_below h4⟩
  by_cases h20 : m ≤ 20
  · by_cases h0 : m = 0
    · refine fin (makes_none r0 r1 r2 r3 r4 oa m c) ?_
      subst h0
      simp
    · obtain ⟨a, rfl, ha⟩ := hc 0 (by omega)
      obtain ⟨b, o, sp⟩ := a
      have hsp : sp = none := by
        cases sp with
        | none => rfl
        | some q =>
          exfalso
          have e0 : Addr.add ⟨b, o, some q⟩ 0 = ⟨b, o, some q⟩ := rfl
          rw [e0] at ha
          unfold World.cell? at ha
          split at ha
          · simp at ha
          · cases ha
      subst hsp
      have hadd : ∀ i, Addr.add ⟨b, o, none⟩ i = ⟨b, o + i, none⟩ := add_none b o
      obtain ⟨cs, T, z, hob⟩ : ∃ cs T z, W.heap[b]? = some (.cells cs T z) := by
        rw [hadd] at ha
        unfold World.cell? at ha
        cases hb : W.heap[b]? with
        | none => simp [hb] at ha
        | some ob =>
          cases ob with
          | cells cs T z => exact ⟨cs, T, z, rfl⟩
          | _ => simp [hb] at ha
      have okp : ∃ cs' T' z', Obj.cells cs T z = .cells cs' T' z' ∧ ∀ (i j : Nat) (k : IntKind), i < m → [IntKind.i64][j]? = some k → cs'[o + i * [IntKind.i64].length + j]? = some (.int k ((fun (i _ : Nat) => x i) i j)) := by
        refine ⟨cs, T, z, rfl, fun i j k hi hk => ?_⟩
        cases j with
        | succ j => simp at hk
        | zero =>
          simp at hk; subst hk
          obtain ⟨a', e, h⟩ := hc i hi
          cases e
          rw [hadd] at h
          simpa [World.cell?, hob] using h
      have hro : @RoF (arr1 (list1 b o m c (.cells cs T z) x okp)) (Old W) := RoF.old (A := arr1 (list1 b o m c (.cells cs T z) x okp)) (fun id d hd => by
        have hd' : (bif Nat.beq id 0 then some (list1 b o m c (.cells cs T z) x okp) else none) = some d := hd
        simp only [Bool.cond_eq_ite] at hd'
        split at hd'
        · simp only [Option.some.injEq] at hd'; subst hd'; exact hob
        · cases hd')
      exact (makes_short b o m c (.cells cs T z) x okp r0 r1 r2 r3 r4 (F := Old W) hro (old_here W) h20).mono fun e w' ⟨h3, h4⟩ => ⟨h3, old_below h4⟩
  · refine fin (makes_osl r0 r1 r2 r3 r4 oa m c) ?_
    simp; omega
end Go.Ws
