/-
  The law colophonlaw07.ExplicitHides: for every input it returns true, and the arguments read as they did. No conditions.
-/
import Derived.Test.YtmakdbkffeodlaaRows
import Derived.Test.YtmakdbkffeodlaaLaw
import Derived.Test.YtmakdbkffeodlaaA18
namespace Go.Proofs.Ytmakdbkffeodlaa
open Go.ChangeShapes Go.WideShapes Go.ChangeAt Go.RowKit Sl
set_option linter.unusedVariables false
theorem hides_law {W : World} {u1 u2 u3 u4 : Value} {x1 x2 x3 x4 : List Int} (a : ArgI W u1 x1) (b : ArgI W u2 x2) (c : ArgI W u3 x3) (d : ArgI W u4 x4) : Ret Try.prog 6 #[u1, u2, u3, u4] W fun v w' => v = .bool true ∧ Sat W w' [old W] :=
  hides_spec (Sat.begin W) ⟨a.rd, a.nil⟩ ⟨b.rd, b.nil⟩ ⟨c.rd, c.nil⟩ ⟨d.rd, d.nil⟩ a.len b.len c.len d.len
namespace explicitHides
theorem own : ownKnob Try.prog.godebug = none := by kernel_rfl
set_option maxRecDepth 100000 in
theorem lifted (os : Os) (started : os.Started) (H : Type) (enc : TypeId × Value → H) :
    ReturnsInHanded {} Try.checked os 6 .any (Rows.explicitHidesSpec.pre6 enc Try.prog Try.f6 Rows.explicitHidesRow.domain false) (Rows.explicitHidesSpec.post enc Try.prog Try.f6 false true false false) := by
  refine returnsInHanded_of_change (C := Try.checked) own started (by kernel_rfl) Try.func6
    (ChangeSpec.witness6 (enc := enc) (C := Try.checked) false ⟨#[], #[.slice none 0 0, .slice none 0 0, .slice none 0 0, .slice none 0 0], []⟩ 8 (by kernel_rfl) (by kernel_rfl) (by kernel_rfl) (by kernel_rfl)) ?_
  intro W base args ds gs before hval0 hW hcnd _
  have hval : ∀ (j : Nat) t v, Try.f6.params[j]? = some t → args[j]? = some v → Value.okWide Try.prog W .any base t v := hval0
  have hW' := hW
  obtain ⟨p, q, hA0, hV, rfl, hfz, hnd⟩ := hW
  have hA : DataW.TrodAll enc Try.prog W 0 (fun _ => true) true Try.f6.params.toList args.toList ds p := hA0
  rw [Try.params6] at hA hval
  obtain ⟨v0, vs0, d0, ds0, p0, q0, hargs, rfl, rfl, h0, r0⟩ := trodAll_cons hA
  obtain ⟨v1, vs1, d1, ds1, p1, q1, rfl, rfl, rfl, h1, r1⟩ := trodAll_cons r0
  obtain ⟨v2, vs2, d2, ds2, p2, q2, rfl, rfl, rfl, h2, r2⟩ := trodAll_cons r1
  obtain ⟨v3, vs3, d3, ds3, p3, q3, rfl, rfl, rfl, h3, r3⟩ := trodAll_cons r2
  obtain ⟨rfl, rfl, rfl⟩ := trodAll_nil r3
  obtain rfl : args = #[v0, v1, v2, v3] := by cases args; simp_all
  obtain ⟨rfl, rfl⟩ := trodVars_none hV
  obtain ⟨x0, a0⟩ := open_argI Try.underlying22 Try.underlying3 (by kernel_rfl) (hval 0 22 v0 rfl rfl) h0
  obtain ⟨x1, a1⟩ := open_argI Try.underlying22 Try.underlying3 (by kernel_rfl) (hval 1 22 v1 rfl rfl) h1
  obtain ⟨x2, a2⟩ := open_argI Try.underlying22 Try.underlying3 (by kernel_rfl) (hval 2 22 v2 rfl rfl) h2
  obtain ⟨x3, a3⟩ := open_argI Try.underlying22 Try.underlying3 (by kernel_rfl) (hval 3 22 v3 rfl rfl) h3
  refine Calls.mono (hides_law a0 a1 a2 a3) ?_
  rintro e W' ⟨v, rfl, rfl, hS⟩
  exact ⟨_, rfl, law_post (by kernel_rfl) (by kernel_rfl) hW' rfl rfl rfl Try.underlying4 hS.below⟩
theorem over : Rows.explicitHidesRow.holds Try.pinned (OpenSpec.ofChange Rows.explicitHidesSpec) :=
  OpenClaim.holds_of_wide 6 Try.f6 rfl rfl rfl rfl rfl rfl rfl ⟨rfl, rfl, rfl, rfl, rfl⟩ rfl rfl rfl rfl rfl (by kernel_rfl) Try.func6 (by kernel_rfl)
    (of_decide_eq_true (by kernel_rfl)) (by unfold Func.isWrapper; first | (rw [if_pos (by decide +kernel)]; kernel_rfl) | (rw [if_neg (by decide +kernel)]; exact ⟨rfl, rfl⟩))
    (fun os started H enc _ => lifted os started H enc)
theorem proved : Rows.ExplicitHidesSaid := over
#print axioms proved
end explicitHides
end Go.Proofs.Ytmakdbkffeodlaa
