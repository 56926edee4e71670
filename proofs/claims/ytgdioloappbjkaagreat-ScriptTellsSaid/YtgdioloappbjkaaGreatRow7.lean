/- A deed's bytes, or that it may not be, are what the document says: for any deed, the law returns true, and its argument reads as before. No condition. -/
import Derived.Test.YtgdioloappbjkaaGreatRows
import Derived.Test.YtgdioloappbjkaaGreatTells15
import Derived.Test.YtgdioloappbjkaaGreatFacts7
import Derived.OpenShut
import Derived.ChangeOld
import Derived.Below
namespace Go.Proofs.YtgdioloappbjkaaGreat.scriptTells
open Go.ChangeShapes Go.WideShapes Go.ChangeAt Go.RowKit

theorem own : ownKnob Tryz.prog.godebug = none := by kernel_rfl
theorem laidOut : laidOutB Tryz.prog = true := by kernel_rfl

theorem nine {ns : List Int} (h : Ws.within [.i64, .i64, .i64, .i64, .i64, .i64, .i64, .i64, .i64] ns) : ∃ a b c d e f g i j, ns = [a, b, c, d, e, f, g, i, j] := by
  match ns, h with
  | [a, b, c, d, e, f, g, i, j], _ => exact ⟨a, b, c, d, e, f, g, i, j, rfl⟩
  | [], h => simp [Ws.within] at h
  | [_], h => simp [Ws.within] at h
  | [_, _], h => simp [Ws.within] at h
  | [_, _, _], h => simp [Ws.within] at h
  | [_, _, _, _], h => simp [Ws.within] at h
  | [_, _, _, _, _], h => simp [Ws.within] at h
  | [_, _, _, _, _, _], h => simp [Ws.within] at h
  | [_, _, _, _, _, _, _], h => simp [Ws.within] at h
  | [_, _, _, _, _, _, _, _], h => simp [Ws.within] at h
  | _ :: _ :: _ :: _ :: _ :: _ :: _ :: _ :: _ :: _ :: _, h => simp [Ws.within] at h

set_option maxRecDepth 100000 in
theorem lifted (os : Os) (started : os.Started) (H : Type) (enc : TypeId × Value → H) :
    ReturnsInHanded {} Tryz.checked os 7 .any (Rows.scriptTellsSpec.pre6 enc Tryz.prog Tryz.f7 Rows.scriptTellsRow.domain false) (Rows.scriptTellsSpec.post enc Tryz.prog Tryz.f7 false true false false) := by
  refine returnsInHanded_of_change (C := Tryz.checked) own started (by kernel_rfl) Tryz.func7
    (ChangeSpec.witness6 (enc := enc) (C := Tryz.checked) false ⟨#[], #[.agg #[.int .i64 0, .int .i64 0, .int .i64 0, .int .i64 0, .int .i64 0, .int .i64 0, .int .i64 0, .int .i64 0, .int .i64 0]], []⟩ 8 (by kernel_rfl) (by kernel_rfl) (by kernel_rfl) (by kernel_rfl)) ?_
  intro W base args ds gs before hval0 hW hcnd _
  have hval : ∀ (j : Nat) t v, Tryz.f7.params[j]? = some t → args[j]? = some v → Value.okWide Tryz.prog W .any base t v := hval0
  have hW' := hW
  obtain ⟨p, q, hA0, hV, rfl, hfz, hnd⟩ := hW
  have hA : DataW.TrodAll enc Tryz.prog W 0 (fun _ => true) true Tryz.f7.params.toList args.toList ds p := hA0
  rw [Tryz.params7] at hA hval
  obtain ⟨v0, vs0, d0, ds0, p0, q0, hargs, rfl, rfl, h0, r0⟩ := trodAll_cons hA
  obtain ⟨rfl, rfl, rfl⟩ := trodAll_nil r0
  obtain rfl : args = #[v0] := by cases args; simp_all
  obtain ⟨rfl, rfl⟩ := trodVars_none hV
  obtain ⟨ns, rfl, hw⟩ := Ws.int_row (ks := [.i64, .i64, .i64, .i64, .i64, .i64, .i64, .i64, .i64]) (by kernel_rfl) (hval 0 94 v0 rfl rfl)
  obtain ⟨a, b, c, d, e, f, g, i, j, rfl⟩ := nine hw
  have lt0 : ∀ x ∈ p0, x.block < W.heap.size := by obtain ⟨m, hm⟩ := h0; exact DataW.trod_lt m _ _ _ hm
  clear hA0 hval0
  refine (Ws.tells15 a b c d e f g i j W).mono fun e W' ⟨he, bel⟩ => ?_
  subst he
  exact ⟨_, rfl, _, _, _, [], _, [], hW', trodAll_mk1 (shut_bool Tryz.underlying4 _), (trodAll_cons_mk (Below.trod laidOut (by kernel_rfl) (of_decide_eq_true (by kernel_rfl)) h0 bel lt0) trodAll_mk0), rfl, bel.frame _, fun h => by cases h⟩

theorem over : Rows.scriptTellsRow.holds Tryz.pinned (OpenSpec.ofChange Rows.scriptTellsSpec) :=
  OpenClaim.holds_of_wide 7 Tryz.f7 rfl rfl rfl rfl rfl rfl rfl ⟨rfl, rfl, rfl, rfl, rfl⟩ rfl rfl rfl rfl rfl named Tryz.func7 closed inst wrap
    (fun os started H enc _ => lifted os started H enc)

/-- The statement. -/
theorem proved : Rows.ScriptTellsSaid := over
#print axioms proved
end Go.Proofs.YtgdioloappbjkaaGreat.scriptTells
