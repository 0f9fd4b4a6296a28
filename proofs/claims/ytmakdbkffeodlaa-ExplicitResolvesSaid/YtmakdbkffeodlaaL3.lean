/-
  The law colophonlaw07.ExplicitResolves: for every input it returns true, and the arguments read as they did. No conditions.
-/
import Derived.Test.YtmakdbkffeodlaaRows
import Derived.Test.YtmakdbkffeodlaaLaw
import Derived.Test.YtmakdbkffeodlaaC6
namespace Go.Proofs.Ytmakdbkffeodlaa
open Go.ChangeShapes Go.WideShapes Go.ChangeAt Go.RowKit Sl
set_option linter.unusedVariables false
theorem resolves_law {W : World} {u : Value} {xs : List Int} (a : ArgI W u xs) (n : Int) (h : -9223372036854775808 ≤ n ∧ n ≤ 9223372036854775807) : Ret Try.prog 3 #[u, .int .i64 n] W fun v w' => v = .bool true ∧ Sat W w' [old W] :=
  resolves_spec (Sat.begin W) ⟨a.rd, a.nil⟩ a.len n
namespace explicitResolves
theorem own : ownKnob Try.prog.godebug = none := by kernel_rfl
set_option maxRecDepth 100000 in
theorem lifted (os : Os) (started : os.Started) (H : Type) (enc : TypeId × Value → H) :
    ReturnsInHanded {} Try.checked os 3 .any (Rows.explicitResolvesSpec.pre6 enc Try.prog Try.f3 Rows.explicitResolvesRow.domain false) (Rows.explicitResolvesSpec.post enc Try.prog Try.f3 false true false false) := by
  refine returnsInHanded_of_change (C := Try.checked) own started (by kernel_rfl) Try.func3
    (ChangeSpec.witness6 (enc := enc) (C := Try.checked) false ⟨#[], #[.slice none 0 0, .int .i64 0], []⟩ 8 (by kernel_rfl) (by kernel_rfl) (by kernel_rfl) (by kernel_rfl)) ?_
  intro W base args ds gs before hval0 hW hcnd _
  have hval : ∀ (j : Nat) t v, Try.f3.params[j]? = some t → args[j]? = some v → Value.okWide Try.prog W .any base t v := hval0
  have hW' := hW
  obtain ⟨p, q, hA0, hV, rfl, hfz, hnd⟩ := hW
  have hA : DataW.TrodAll enc Try.prog W 0 (fun _ => true) true Try.f3.params.toList args.toList ds p := hA0
  rw [Try.params3] at hA hval
  obtain ⟨v0, vs0, d0, ds0, p0, q0, hargs, rfl, rfl, h0, r0⟩ := trodAll_cons hA
  obtain ⟨v1, vs1, d1, ds1, p1, q1, rfl, rfl, rfl, h1, r1⟩ := trodAll_cons r0
  obtain ⟨rfl, rfl, rfl⟩ := trodAll_nil r1
  obtain rfl : args = #[v0, v1] := by cases args; simp_all
  obtain ⟨rfl, rfl⟩ := trodVars_none hV
  obtain ⟨x0, a0⟩ := open_argI Try.underlying22 Try.underlying3 (by kernel_rfl) (hval 0 22 v0 rfl rfl) h0
  obtain ⟨n1, rfl, rfl, rfl, w1⟩ := open_int Try.underlying3 (hval 1 3 v1 rfl rfl) h1
  refine Calls.mono (resolves_law a0 n1 (bounds_i64 w1)) ?_
  rintro e W' ⟨v, rfl, rfl, hS⟩
  exact ⟨_, rfl, law_post (by kernel_rfl) (by kernel_rfl) hW' rfl rfl rfl Try.underlying4 hS.below⟩
theorem over : Rows.explicitResolvesRow.holds Try.pinned (OpenSpec.ofChange Rows.explicitResolvesSpec) :=
  OpenClaim.holds_of_wide 3 Try.f3 rfl rfl rfl rfl rfl rfl rfl ⟨rfl, rfl, rfl, rfl, rfl⟩ rfl rfl rfl rfl rfl (by kernel_rfl) Try.func3 (by kernel_rfl)
    (of_decide_eq_true (by kernel_rfl)) (by unfold Func.isWrapper; first | (rw [if_pos (by decide +kernel)]; kernel_rfl) | (rw [if_neg (by decide +kernel)]; exact ⟨rfl, rfl⟩))
    (fun os started H enc _ => lifted os started H enc)
theorem proved : Rows.ExplicitResolvesSaid := over
#print axioms proved
end explicitResolves
end Go.Proofs.Ytmakdbkffeodlaa
