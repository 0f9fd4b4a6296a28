/-
  The law colophonlaw07.ExplicitDeep: for every input it returns true, and the arguments read as they did. No conditions.
-/
import Derived.Test.YtmakdbkffeodlaaRows
import Derived.Test.YtmakdbkffeodlaaA16
namespace Go.Proofs.Ytmakdbkffeodlaa
open Go.ChangeShapes Go.WideShapes Go.ChangeAt Go.RowKit Sl
set_option linter.unusedVariables false
theorem deep_law {W : World} {u : Value} {x : Nat × (Nat → Bool)} (n : Int) (h : -9223372036854775808 ≤ n ∧ n ≤ 9223372036854775807) (a : ArgB W u x) : Ret Try.prog 5 #[.int .i64 n, u] W fun v w' => v = .bool true ∧ Sat W w' [old W] :=
  deep_spec (Sat.begin W) n a.rd a.len
namespace explicitDeep
theorem own : ownKnob Try.prog.godebug = none := by kernel_rfl
set_option maxRecDepth 100000 in
theorem lifted (os : Os) (started : os.Started) (H : Type) (enc : TypeId × Value → H) :
    ReturnsInHanded {} Try.checked os 5 .any (Rows.explicitDeepSpec.pre6 enc Try.prog Try.f5 Rows.explicitDeepRow.domain false) (Rows.explicitDeepSpec.post enc Try.prog Try.f5 false true false false) := by
  refine returnsInHanded_of_change (C := Try.checked) own started (by kernel_rfl) Try.func5
    (ChangeSpec.witness6 (enc := enc) (C := Try.checked) false ⟨#[], #[.int .i64 0, .slice none 0 0], []⟩ 8 (by kernel_rfl) (by kernel_rfl) (by kernel_rfl) (by kernel_rfl)) ?_
  intro W base args ds gs before hval0 hW hcnd _
  have hval : ∀ (j : Nat) t v, Try.f5.params[j]? = some t → args[j]? = some v → Value.okWide Try.prog W .any base t v := hval0
  have hW' := hW
  obtain ⟨p, q, hA0, hV, rfl, hfz, hnd⟩ := hW
  have hA : DataW.TrodAll enc Try.prog W 0 (fun _ => true) true Try.f5.params.toList args.toList ds p := hA0
  rw [Try.params5] at hA hval
  obtain ⟨v0, vs0, d0, ds0, p0, q0, hargs, rfl, rfl, h0, r0⟩ := trodAll_cons hA
  obtain ⟨v1, vs1, d1, ds1, p1, q1, rfl, rfl, rfl, h1, r1⟩ := trodAll_cons r0
  obtain ⟨rfl, rfl, rfl⟩ := trodAll_nil r1
  obtain rfl : args = #[v0, v1] := by cases args; simp_all
  obtain ⟨rfl, rfl⟩ := trodVars_none hV
  obtain ⟨n0, rfl, rfl, rfl, w0⟩ := open_int Try.underlying3 (hval 0 3 v0 rfl rfl) h0
  obtain ⟨x1, a1⟩ := open_argB Try.underlying32 Try.underlying4 (by kernel_rfl) (hval 1 32 v1 rfl rfl) h1
  refine Calls.mono (deep_law n0 (bounds_i64 w0) a1) ?_
  rintro e W' ⟨v, rfl, rfl, hS⟩
  exact ⟨_, rfl, law_post (by kernel_rfl) (by kernel_rfl) hW' rfl rfl rfl Try.underlying4 hS.below⟩
theorem over : Rows.explicitDeepRow.holds Try.pinned (OpenSpec.ofChange Rows.explicitDeepSpec) :=
  OpenClaim.holds_of_wide 5 Try.f5 rfl rfl rfl rfl rfl rfl rfl ⟨rfl, rfl, rfl, rfl, rfl⟩ rfl rfl rfl rfl rfl (by kernel_rfl) Try.func5 (by kernel_rfl)
    (of_decide_eq_true (by kernel_rfl)) (by unfold Func.isWrapper; first | (rw [if_pos (by decide +kernel)]; kernel_rfl) | (rw [if_neg (by decide +kernel)]; exact ⟨rfl, rfl⟩))
    (fun os started H enc _ => lifted os started H enc)
theorem proved : Rows.ExplicitDeepSaid := over
#print axioms proved
end explicitDeep
end Go.Proofs.Ytmakdbkffeodlaa
