/- A client's act that is given up at its first question: the summary of Do. -/
import Derived.Test.YtgdioloappbjkaaGreatBase
import Derived.Test.YtgdioloappbjkaaGreatWsPan
namespace Go.Ws
open Go.Proofs

def seqL : Code → Code
  | .seq a _ => a
  | c => c
def seqR : Code → Code
  | .seq _ b => b
  | c => c
def regOps : Code → Array Oper
  | .region _ ops _ => ops
  | _ => #[]
def regId : Code → Nat
  | .region id _ _ => id
  | _ => 0
def condL : Code → Code
  | .cond _ a _ => a
  | c => c

noncomputable abbrev do0 : Code := seqL (Tryz.f33.body.getD .skip)
noncomputable abbrev do1 : Code := seqL (seqR (Tryz.f33.body.getD .skip))
noncomputable abbrev do2 : Code := seqL (seqR (seqR (Tryz.f33.body.getD .skip)))
noncomputable abbrev do3 : Code := seqL (seqR (seqR (seqR (Tryz.f33.body.getD .skip))))
noncomputable abbrev do4 : Code := seqR (seqR (seqR (seqR (Tryz.f33.body.getD .skip))))
noncomputable abbrev must0 : Code := seqL (Tryz.f88.body.getD .skip)
noncomputable abbrev must1 : Code := condL (seqR (Tryz.f88.body.getD .skip))
noncomputable abbrev end1 : Code := seqR (Tryz.f87.body.getD .skip)

/-- What must panics with. -/
noncomputable def mustR (args : List SV) (h : Hp) : Option (TypeId × SV × Hp) :=
  bif Nat.ble args.length Tryz.f88.ntmps then
  match runs Tryz.prog callK Tryz.f88.ntmps plansOf 88 30 [must0] ⟨regsS 0 args, h, []⟩ with
  | some s1 => match lookS s1.regs 5 with
    | some (.v (.bool true)) => match opsS Tryz.prog callK Tryz.f88.ntmps (regOps must1) ((regOps must1).toList.take 3) s1 with
      | some s2 => match lookS s2.regs 8, s2.defs with
        | some (.ifc T x), [] => some (T, x, s2.hp)
        | _, _ => none
      | none => none
    | _ => none
  | none => none
  else none

/-- What Do answers where it gives up at once. -/
noncomputable def doR (args : List SV) (h : Hp) : Option (SV × Hp) :=
  bif Nat.ble args.length Tryz.f33.ntmps then
  match runs Tryz.prog callK Tryz.f33.ntmps plansOf 33 30 [do0, do1, do2] ⟨regsS 0 args, h, []⟩ with
  | some st1 => match opsS Tryz.prog callK Tryz.f33.ntmps (regOps do3) ((regOps do3).toList.take 7) st1 with
    | some st2 => match evalSs st2.regs [.tmp 21, .const (.int .i64 1)] with
      | some msv => match mustR msv st2.hp with
        | some (T, x, h3) => match st2.defs with
          | [.call D [] cs] => bif Nat.beq D 87 && Nat.ble cs.length Tryz.f87.ntmps then match codeJ Tryz.prog callK Tryz.f87.ntmps plansOf 87 30 0 end1 ⟨putS (regsS 0 cs) 4 (.ifc T x), h3, []⟩ with
            | some (.normal, st4) => match st4.defs, resSs Tryz.prog { st2 with hp := st4.hp } Tryz.f33.results.toList with
              | [], some l => some (oneOf l, st4.hp)
              | _, _ => none
            | _ => none else none
          | _ => none
        | none => none
      | none => none
    | none => none
  | none => none
  else none

theorem must_body : Tryz.f88.body = some (.seq must0 (.cond (.tmp 5) (.region (regId must1) (regOps must1) false) .skip)) := by kernel_rfl
theorem must_ops : (regOps must1).toList = (regOps must1).toList.take 3 ++ [⟨none, .panic (.tmp 8), ((regOps must1).toList[3]?).elim 0 (·.type), ((regOps must1).toList[3]?).elim "" (·.pos), ((regOps must1).toList[3]?).elim #[] (·.after), none⟩] := by kernel_rfl
theorem small33 : Tryz.f33.ntmps < 100000 := by rw [Tryz.ntmps33]; decide
theorem small87 : Tryz.f87.ntmps < 100000 := by rw [Tryz.ntmps87]; decide
theorem small88 : Tryz.f88.ntmps < 100000 := by rw [Tryz.ntmps88]; decide

theorem opsT_grows {call : CallR} (hc : CallOK Tryz.prog call) {n : Nat} {ops : Array Oper} {l : List Oper} {st st' : St} (h : opsS Tryz.prog call n ops l st = some st') : Grows st.hp st'.hp := opsS_grows hc h

theorem mustR_ok {args : List SV} {h h' : Hp} {T : TypeId} {x : SV} (e : mustR args h = some (T, x, h')) : PanOK Tryz.prog 88 args h (.ifc T x) h' ∧ Grows h h' := by
  unfold mustR at e
  cases hb : Nat.ble args.length Tryz.f88.ntmps with
  | false => rw [hb] at e; cases e
  | true =>
  rw [hb, cond_true] at e
  split at e
  rotate_left
  · cases e
  rename_i s1 h1
  split at e
  rotate_left
  · cases e
  rename_i ht
  split at e
  rotate_left
  · cases e
  rename_i s2 h2
  split at e
  rotate_left
  · cases e
  rename_i T' x' hs hd
  simp only [Option.some.injEq, Prod.mk.injEq] at e
  obtain ⟨rfl, rfl, rfl⟩ := e
  have ok := plansOK 88 Tryz.f88 _ Tryz.func88 must_body
  simp only [codeOK, Bool.and_eq_true] at ok
  exact ⟨pan_ok callK_ok mixed (nameOK 88 Tryz.f88 Tryz.func88) Tryz.func88 must_body must_ops small88 ok.1 (Nat.le_of_ble_eq_true hb) h1 ht h2 hd hs, (runs_grows callK_ok h1).trans (opsT_grows callK_ok h2)⟩

theorem do_body : Tryz.f33.body = some (seqs [do0, do1, do2] (.seq (.region (regId do3) (regOps do3) false) do4)) := by kernel_rfl
theorem do_ops : (regOps do3).toList = (regOps do3).toList.take 7 ++ ⟨some 22, .call ⟨.value (.func 88), #[.tmp 21, .const (.int .i64 1)], ((regOps do3).toList[7]?).elim #[] (fun o => match o.op with
  | .call ⟨_, _, aT⟩ => aT
  | _ => #[])⟩, ((regOps do3).toList[7]?).elim 0 (·.type), ((regOps do3).toList[7]?).elim "" (·.pos), ((regOps do3).toList[7]?).elim #[] (·.after), none⟩ :: [] := by kernel_rfl
theorem end_body : Tryz.f87.body = some (.seq (.region 0 #[⟨some 4, .call ⟨.builtin .recover, #[], #[]⟩, ((regOps (seqL (Tryz.f87.body.getD .skip))).toList[0]?).elim 0 (·.type), ((regOps (seqL (Tryz.f87.body.getD .skip))).toList[0]?).elim "" (·.pos), ((regOps (seqL (Tryz.f87.body.getD .skip))).toList[0]?).elim #[] (·.after), none⟩] false) end1) := by kernel_rfl

theorem doR_ok {args : List SV} {h h' : Hp} {v : SV} (e : doR args h = some (v, h')) : SumOK Tryz.prog 33 args h v h' ∧ Grows h h' := by
  unfold doR at e
  cases hb : Nat.ble args.length Tryz.f33.ntmps with
  | false => rw [hb] at e; cases e
  | true =>
  rw [hb, cond_true] at e
  split at e
  rotate_left
  · cases e
  rename_i st1 h1
  split at e
  rotate_left
  · cases e
  rename_i st2 h2
  split at e
  rotate_left
  · cases e
  rename_i msv ha
  split at e
  rotate_left
  · cases e
  rename_i T x h3 hm
  split at e
  rotate_left
  · cases e
  rename_i D cs hd2
  cases hbD : (Nat.beq D 87 && Nat.ble cs.length Tryz.f87.ntmps) with
  | false => rw [hbD] at e; cases e
  | true =>
  rw [hbD, cond_true] at e
  simp only [Bool.and_eq_true] at hbD
  have := Nat.eq_of_beq_eq_true hbD.1
  subst this
  split at e
  rotate_left
  · cases e
  rename_i st4 hD
  split at e
  rotate_left
  · cases e
  rename_i l hd4 hres
  simp only [Option.some.injEq, Prod.mk.injEq] at e
  obtain ⟨rfl, rfl⟩ := e
  obtain ⟨pan, g3⟩ := mustR_ok hm
  have okD := plansOK 87 Tryz.f87 _ Tryz.func87 end_body
  simp only [codeOK, Bool.and_eq_true] at okD
  exact ⟨rescue_ok callK_ok mixed (nameOK 33 Tryz.f33 Tryz.func33) Tryz.func33 do_body do_ops small33 (plansOK 33 Tryz.f33 _ Tryz.func33 do_body) (Nat.le_of_ble_eq_true hb) h1 h2 ha pan g3 hd2 (nameOK 87 Tryz.f87 Tryz.func87) Tryz.func87 end_body small87 (by rw [Tryz.ntmps87]; decide) (Nat.le_of_ble_eq_true hbD.2) Tryz.results87 okD.2 hD hd4 hres,
    (runs_grows callK_ok h1).trans ((opsT_grows callK_ok h2).trans (g3.trans (codeJ_grows callK_ok 0 end1 hD)))⟩

noncomputable def sumsD : Sums := fun f args h => bif Nat.beq f 33 then doR args h else sumsK f args h

theorem sumsD_ok : SumsOK Tryz.prog sumsD := by
  intro f args h v h' e
  unfold sumsD at e
  cases hf : Nat.beq f 33 with
  | false => rw [hf, cond_false] at e; exact sumsK_ok f args h v h' e
  | true =>
    rw [hf, cond_true] at e
    have := Nat.eq_of_beq_eq_true hf
    subst this
    obtain ⟨h1, h2⟩ := doR_ok e
    exact ⟨h2, h1.1, h1.2⟩

/-- With acts that are given up at once. -/
noncomputable abbrev callD : CallR := callS Tryz.prog plansOf quietOf sumsD 200 30
theorem callD_ok : CallOK Tryz.prog callD := callS_ok sumsD_ok mixed nameOK plansOK quietOK 30
end Go.Ws
