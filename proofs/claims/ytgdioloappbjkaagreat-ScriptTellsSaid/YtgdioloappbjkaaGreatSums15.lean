/- With Check known beforehand. -/
import Derived.Test.YtgdioloappbjkaaGreatCheck15
namespace Go.Ws
open Go.Proofs

def i64s : List SV → Option (List Int)
  | [] => some []
  | x :: l => match intS x with
    | some (.i64, n, _) => match i64s l with
      | some m => some (n :: m)
      | none => none
    | _ => none

theorem i64s_den {ι : Env} : ∀ {l : List SV} {ns : List Int} {vs : List Value}, i64s l = some ns → dens ι l = some vs → vs = ns.map (Value.int .i64)
  | [], ns, vs, h, hd => by simp [i64s] at h; simp [dens] at hd; subst h hd; rfl
  | x :: l, ns, vs, h, hd => by
    obtain ⟨v, m, h1, h2, rfl⟩ := dens_cons.1 hd
    simp only [i64s] at h
    split at h
    rotate_left
    · cases h
    rename_i n s hx
    split at h
    rotate_left
    · cases h
    rename_i m' hm
    simp only [Option.some.injEq] at h; subst h
    rw [intS_den hx h1, i64s_den hm h2]; rfl

/-- What Check says. -/
def chkS (args : List SV) : Option SV := match args with
  | [.agg l] => match i64s l with
    | some [n0, n1, n2, n3, n4, n5, n6, n7, n8] => some (.si .i64 (chk n0 n1 n2 n3 n4 n5 n6 n7 n8))
    | _ => none
  | _ => none

noncomputable def sumsC : Sums := fun f args h => bif Nat.beq f 38 || Nat.beq f 39 then match chkS args with
  | some v => some (v, h)
  | none => none
  else sumsK f args h

theorem sumsC_ok : SumsOK Tryz.prog sumsC := by
  intro f args h v h' e
  unfold sumsC at e
  cases hf : (Nat.beq f 38 || Nat.beq f 39) with
  | false => rw [hf, cond_false] at e; exact sumsK_ok f args h v h' e
  | true =>
    rw [hf, cond_true] at e
    split at e
    rotate_left
    · cases e
    rename_i v' hv
    simp only [Option.some.injEq, Prod.mk.injEq] at e
    obtain ⟨rfl, rfl⟩ := e
    unfold chkS at hv
    split at hv
    rotate_left
    · cases hv
    rename_i l
    split at hv
    rotate_left
    · cases hv
    rename_i n0 n1 n2 n3 n4 n5 n6 n7 n8 hl
    simp only [Option.some.injEq] at hv; subst hv
    have key : ∀ (F : HP) (ι : Env) (vs : List Value), Good ι ι h → dens ι [.agg l] = some vs → vs = [deedV n0 n1 n2 n3 n4 n5 n6 n7 n8] := by
      intro F ι vs g hd
      obtain ⟨u, m, h1, h2, rfl⟩ := dens_cons.1 hd
      simp only [dens, Option.some.injEq] at h2; subst h2
      obtain ⟨us, h3, rfl⟩ := den_agg h1
      rw [i64s_den hl h3]; rfl
    simp only [Bool.or_eq_true] at hf
    rcases hf with hf | hf <;> (have := Nat.eq_of_beq_eq_true hf; subst this)
    · refine ⟨.refl _, Tryz.call38, fun _ F ι vs g hd w s => ?_⟩
      rw [key F ι vs g hd]
      refine (chk_ok n0 n1 n2 n3 n4 n5 n6 n7 n8 s).mono ?_
      rintro e w' ⟨rfl, s'⟩
      exact ⟨ι, _, rfl, g, rfl, s'⟩
    · refine ⟨.refl _, Tryz.call39, fun _ F ι vs g hd w s => ?_⟩
      rw [key F ι vs g hd]
      refine (chkR_ok n0 n1 n2 n3 n4 n5 n6 n7 n8 s).mono ?_
      rintro e w' ⟨rfl, s'⟩
      exact ⟨ι, _, rfl, g, by rw [chk_same]; rfl, s'⟩

noncomputable abbrev callC : CallR := callS Tryz.prog plansOf quietOf sumsC 200 30
theorem callC_ok : CallOK Tryz.prog callC := callS_ok sumsC_ok mixed nameOK plansOK quietOK 30
end Go.Ws
