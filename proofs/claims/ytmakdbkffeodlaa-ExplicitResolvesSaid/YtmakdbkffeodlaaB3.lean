/-
  Plain laws of Resolve's model: a paragraph without embeddings, overrides and initiators; pairs.
-/
import Derived.Test.YtmakdbkffeodlaaB2
namespace Go.Proofs.Ytmakdbkffeodlaa
open Go.RowKit Sl
set_option linter.unusedVariables false
set_option linter.unusedSimpArgs false
def plain1 (x : Int) : Bool := !(x == 17 || x == 15 || x == 18 || x == 16 || x == 21 || x == 20 || x == 22)
def plainB (l : List Int) : Bool := l.all plain1
theorem plainB_snoc (l : List Int) (x : Int) : plainB (l ++ [x]) = (plainB l && plain1 x) := by simp [plainB]
theorem oneS_plain {base x : Int} (h : plain1 x = true) (r : List Int) : ∃ lv, oneS base x r (st0 base) = (st0 base, lv, x) ∧ (lv = base ∨ lv = -1) := by
  have h1 : ¬ (x = 17 ∨ x = 15 ∨ x = 18 ∨ x = 16) := by simp [plain1] at h; omega
  have h2 : ¬ (x = 21 ∨ x = 20 ∨ x = 22) := by simp [plain1] at h; omega
  have ht : topE (st0 base) = ⟨base, 0, false⟩ := rfl
  have hty : tyOf ⟨base, 0, false⟩ x = x := by simp [tyOf]
  unfold oneS
  rw [if_neg h1, if_neg h2]
  split
  · have e : endS (st0 base) = st0 base := by simp [endS, st0]
    exact ⟨base, by rw [e, ht, hty], .inl rfl⟩
  split
  · have e : popS base (st0 base) = st0 base := by simp [popS, st0]
    exact ⟨-1, by rw [e], .inr rfl⟩
  split
  · exact ⟨-1, rfl, .inr rfl⟩
  split
  · exact ⟨base, rfl, .inl rfl⟩
  · exact ⟨base, by rw [ht, hty], .inl rfl⟩
theorem resS_plain {base : Int} : ∀ {xs : List Int}, plainB xs = true → ∀ (i : Nat) (x : Int), xs[i]? = some x → ∃ lv, (resS base xs (st0 base))[i]? = some (lv, x) ∧ (lv = base ∨ lv = -1)
  | [], _, i, x, hx => by simp at hx
  | y :: r, h, i, x, hx => by
    simp only [plainB, List.all_cons, Bool.and_eq_true] at h
    obtain ⟨lv, h1, h2⟩ := oneS_plain (base := base) h.1 r
    cases i with
    | zero => simp at hx; subst hx; exact ⟨lv, by simp [resS, h1], h2⟩
    | succ i =>
      simp only [resS, h1, List.getElem?_cons_succ]
      exact resS_plain (by simpa [plainB] using h.2) i x (by simpa using hx)
theorem resF_plain {base : Int} {xs : List Int} (h : plainB xs = true) {i : Nat} {x : Int} (hx : xs[i]? = some x) : ∃ lv, (resF xs base)[i]? = some (lv, x) ∧ (lv = base ∨ lv = -1) := by
  rw [resF_eq]; exact resS_plain h i x hx
/-- An initiator's place in Match, and what Resolve says there and at its PDI. -/
theorem resF_pair {base : Int} (hb : base = 0 ∨ base = 1) {xs : List Int} {i : Nat} {x : Int} (hx : xs[i]? = some x) (hs : stB x = true) :
    ∃ m : Nat, (matchF xs)[i]? = some (m : Int) ∧ i < m ∧ (m < xs.length → ∃ lv a b, (resF xs base)[i]? = some (lv, a) ∧ (resF xs base)[m]? = some (lv, b) ∧ ((a = 1 ∧ b = 1) ∨ (a = 2 ∧ b = 2) ∨ (a = x ∧ b = 23))) := by
  refine ⟨_, matchF_at hx hs, by omega, fun hm => ?_⟩
  obtain ⟨t, h1, h2⟩ := resS_pair base (Inv.start hb) hx hs hm
  refine ⟨t.lv, _, _, by rw [resF_eq]; exact h1, by rw [resF_eq]; exact h2, ?_⟩
  unfold tyOf
  by_cases h1 : t.fo = 1
  · left; simp [h1]
  · by_cases h2 : t.fo = 2
    · right; left; simp [h2]
    · right; right; simp [h1, h2]
theorem map1_at {l : List (Int × Int)} {i : Nat} {a b : Int} (h : l[i]? = some (a, b)) : (ints (l.map fun q => q.1))[i]? = some (.int .i64 a) := by
  apply ints_get; simp [h]
theorem map2_at {l : List (Int × Int)} {i : Nat} {a b : Int} (h : l[i]? = some (a, b)) : (ints (l.map fun q => q.2))[i]? = some (.int .i64 b) := by
  apply ints_get; simp [h]
end Go.Proofs.Ytmakdbkffeodlaa
