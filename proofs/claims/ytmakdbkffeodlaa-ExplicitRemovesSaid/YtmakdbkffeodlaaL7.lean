/-
  The law colophonlaw07.ExplicitRemoves: for every input it returns true, and the arguments read as they did. No conditions.
-/
import Derived.Test.YtmakdbkffeodlaaRows
import Derived.Test.YtmakdbkffeodlaaLaw
import Derived.Test.YtmakdbkffeodlaaA13
namespace Go.Proofs.Ytmakdbkffeodlaa
open Go.ChangeShapes Go.WideShapes Go.ChangeAt Go.RowKit Sl
set_option linter.unusedVariables false
theorem removes_law {W : World} (n : Int) (h : -9223372036854775808 ≤ n ∧ n ≤ 9223372036854775807) : Ret Try.prog 7 #[.int .i64 n] W fun v w' => v = .bool true ∧ Sat W w' [old W] :=
  removes_spec (Sat.begin W) n
namespace explicitRemoves
theorem own : ownKnob Try.prog.godebug = none := by kernel_rfl
set_option maxRecDepth 100000 in
theorem lifted (os : Os) (started : os.Started) (H : Type) (enc : TypeId × Value → H) :
    ReturnsInHanded {} Try.checked os 7 .any (Rows.explicitRemovesSpec.pre6 enc Try.prog Try.f7 Rows.explicitRemovesRow.domain false) (Rows.explicitRemovesSpec.post enc Try.prog Try.f7 false true false false) := by
  refine returnsInHanded_of_change (C := Try.checked) own started (by kernel_rfl) Try.func7
    (ChangeSpec.witness6 (enc := enc) (C := Try.checked) false ⟨#[], #[.int .i64 0], []⟩ 8 (by kernel_rfl) (by kernel_rfl) (by kernel_rfl) (by kernel_rfl)) ?_
  intro W base args ds gs before hval0 hW hcnd _
  have hval : ∀ (j : Nat) t v, Try.f7.params[j]? = some t → args[j]? = some v → Value.okWide Try.prog W .any base t v := hval0
  have hW' := hW
  obtain ⟨p, q, hA0, hV, rfl, hfz, hnd⟩ := hW
  have hA : DataW.TrodAll enc Try.prog W 0 (fun _ => true) true Try.f7.params.toList args.toList ds p := hA0
  rw [Try.params7] at hA hval
  obtain ⟨v0, vs0, d0, ds0, p0, q0, hargs, rfl, rfl, h0, r0⟩ := trodAll_cons hA
  obtain ⟨rfl, rfl, rfl⟩ := trodAll_nil r0
  obtain rfl : args = #[v0] := by cases args; simp_all
  obtain ⟨rfl, rfl⟩ := trodVars_none hV
  obtain ⟨n0, rfl, rfl, rfl, w0⟩ := open_int Try.underlying3 (hval 0 3 v0 rfl rfl) h0
  refine Calls.mono (removes_law n0 (bounds_i64 w0)) ?_
  rintro e W' ⟨v, rfl, rfl, hS⟩
  exact ⟨_, rfl, law_post (by kernel_rfl) (by kernel_rfl) hW' rfl rfl rfl Try.underlying4 hS.below⟩
theorem over : Rows.explicitRemovesRow.holds Try.pinned (OpenSpec.ofChange Rows.explicitRemovesSpec) :=
  OpenClaim.holds_of_wide 7 Try.f7 rfl rfl rfl rfl rfl rfl rfl ⟨rfl, rfl, rfl, rfl, rfl⟩ rfl rfl rfl rfl rfl (by kernel_rfl) Try.func7 (by kernel_rfl)
    (of_decide_eq_true (by kernel_rfl)) (by unfold Func.isWrapper; first | (rw [if_pos (by decide +kernel)]; kernel_rfl) | (rw [if_neg (by decide +kernel)]; exact ⟨rfl, rfl⟩))
    (fun os started H enc _ => lifted os started H enc)
theorem proved : Rows.ExplicitRemovesSaid := over
#print axioms proved
end explicitRemoves
end Go.Proofs.Ytmakdbkffeodlaa
