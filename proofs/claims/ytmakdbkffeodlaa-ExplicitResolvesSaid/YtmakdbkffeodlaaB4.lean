/-
  Plain laws for the document's Resolve: the state ahead of a place, what its stack holds, how Base leaves isolates out.
-/
import Derived.Test.YtmakdbkffeodlaaB3
namespace Go.Proofs.Ytmakdbkffeodlaa
open Go.RowKit Sl
set_option linter.unusedVariables false
set_option linter.unusedSimpArgs false
theorem base_skip : ∀ (n : Nat) (r : List Int), baseGo r ((n : Int) + 1) = baseGo (r.drop (pdiGo n r)) 0
  | n, [] => by simp [baseGo, pdiGo]
  | n, x :: r => by
    by_cases hs : stB x = true
    · have ih := base_skip (n + 1) r
      simp only [baseGo, pdiGo, if_pos hs, List.drop_succ_cons]
      rw [← ih]; simp
    · by_cases h23 : x = 23
      · cases n with
        | zero =>
          simp only [baseGo, pdiGo, if_neg hs, if_pos h23, List.drop_zero]
          simp
        | succ n =>
          have ih := base_skip n r
          simp only [baseGo, pdiGo, if_neg hs, if_pos h23, List.drop_succ_cons]
          rw [← ih]
          congr 1
          split <;> omega
      · have ih := base_skip n r
        have hn : ¬ ((n : Int) + 1 = 0) := by omega
        simp only [baseGo, pdiGo, if_neg hs, if_neg h23, List.drop_succ_cons, if_neg hn, ite_self]
        exact ih
/-- What a state's stack holds. -/
structure Good (base : Int) (s : St) : Prop where
  hi : ∃ l, s.st = l ++ [⟨base, 0, false⟩] ∧ ∀ e ∈ l, base < e.lv
  fo : ∀ e ∈ s.st, e.fo = 0 ∨ e.fo = 1 ∨ e.fo = 2
theorem Good.start (base : Int) : Good base (st0 base) := ⟨⟨[], rfl, by simp⟩, by intro e he; simp [st0] at he; subst he; exact .inl rfl⟩
theorem cutS_good (b : Ent) (hb : b.iso = false) (P : Ent → Prop) : ∀ (l : List Ent), 0 < isoN (l ++ [b]) → (∀ e ∈ l, P e) → ∃ l', cutS (l ++ [b]) = l' ++ [b] ∧ ∀ e ∈ l', P e
  | [], h, _ => by simp [isoN, hb] at h
  | x :: l, h, hP => by
    simp only [List.cons_append, cutS]
    cases hx : x.iso
    · have e : isoN (x :: (l ++ [b])) = isoN (l ++ [b]) := by simp [isoN, hx]
      rw [List.cons_append, e] at h
      simp only [Bool.false_eq_true, if_false]
      exact cutS_good b hb P l h (fun e he => hP e (by simp [he]))
    · simp only [if_true]
      exact ⟨l, rfl, fun e he => hP e (by simp [he])⟩
theorem Good.push {base : Int} {s : St} {x : Ent} {st : List Ent} (h : Good base s) (hs : s.st = x :: st) (hlo : base ≤ x.lv) (b : Bool) (f : Int) (i : Bool) (hf : f = 0 ∨ f = 1 ∨ f = 2) :
    (∃ l, (⟨nextL x.lv b, f, i⟩ : Ent) :: s.st = l ++ [⟨base, 0, false⟩] ∧ ∀ e ∈ l, base < e.lv) ∧ ∀ e ∈ (⟨nextL x.lv b, f, i⟩ : Ent) :: s.st, e.fo = 0 ∨ e.fo = 1 ∨ e.fo = 2 := by
  obtain ⟨l, h1, h2⟩ := h.hi
  have h3 := nextL_gt x.lv b
  refine ⟨⟨⟨nextL x.lv b, f, i⟩ :: l, by rw [h1]; rfl, fun e he => ?_⟩, fun e he => ?_⟩
  · rcases List.mem_cons.1 he with rfl | he
    · simp only; omega
    · exact h2 e he
  · rcases List.mem_cons.1 he with rfl | he
    · exact hf
    · exact h.fo e he
theorem Good.same {base : Int} {s s' : St} (h : Good base s) (e : s'.st = s.st) : Good base s' := ⟨by rw [e]; exact h.hi, by rw [e]; exact h.fo⟩
theorem embF_in (c : Int) : embF c = 0 ∨ embF c = 1 ∨ embF c = 2 := by unfold embF; split <;> (try split) <;> simp
theorem Good.one {base : Int} {k : Nat} {s : St} (hI : Inv base k s) (hL : Lo base s) (h : Good base s) (x : Int) (r : List Int) : Good base (oneS base x r s).1 := by
  obtain ⟨e, st, hs, _⟩ := hI.top
  have he := hL e (by simp [hs])
  unfold oneS
  split
  · simp only [embedS, hs]
    split
    · obtain ⟨h1, h2⟩ := h.push hs he (embR x) (embF x) false (embF_in x)
      rw [hs] at h1 h2
      exact ⟨h1, h2⟩
    · split
      · exact h.same (by simp [hs])
      · exact h
  split
  · generalize (if x = 22 then dirGo 0 r else decide (x = 21)) = b
    simp only [beginS, hs]
    split
    · obtain ⟨h1, h2⟩ := h.push hs he b 0 true (.inl rfl)
      rw [hs] at h1 h2
      exact ⟨h1, h2⟩
    · exact h.same (by simp [hs])
  split
  · unfold endS
    split
    · exact h.same rfl
    · split
      · rename_i hv
        obtain ⟨l, h1, h2⟩ := h.hi
        have hv2 : 0 < isoN (l ++ [⟨base, 0, false⟩]) := by rw [← h1, ← hI.val]; exact hv
        obtain ⟨l', h3, h4⟩ := cutS_good ⟨base, 0, false⟩ rfl (fun e => base < e.lv) l hv2 h2
        refine ⟨⟨l', by rw [← h3, ← h1], h4⟩, fun q hq => h.fo q (cutS_mem hq)⟩
      · exact h
  split
  · simp only [popS, hs]
    split
    · exact h
    split
    · exact h.same (by simp [hs])
    split
    · rename_i h3
      obtain ⟨l, h1, h2⟩ := h.hi
      refine ⟨?_, fun q hq => h.fo q (by rw [hs]; exact List.mem_cons_of_mem _ hq)⟩
      cases l with
      | nil => rw [hs] at h1; simp at h1; obtain ⟨rfl, rfl⟩ := h1; simp at h3
      | cons y l => rw [hs] at h1; simp at h1; exact ⟨l, h1.2, fun q hq => h2 q (by simp [hq])⟩
    · exact h
  split
  · exact h
  split <;> exact h
/-- The stack's last entry is its first one just where it stands alone. -/
theorem Good.alone {base : Int} {s : St} (h : Good base s) {x : Ent} {st : List Ent} (hs : s.st = x :: st) : (x.lv == base && (x.fo == 0 && x.iso == false)) = st.isEmpty := by
  obtain ⟨l, h1, h2⟩ := h.hi
  cases l with
  | nil => rw [hs] at h1; simp at h1; obtain ⟨rfl, rfl⟩ := h1; simp
  | cons y l =>
    rw [hs] at h1
    simp at h1
    obtain ⟨rfl, rfl⟩ := h1
    have := h2 x (by simp)
    have e : (x.lv == base) = false := by simp; omega
    rw [e]; simp
theorem Good.ty {base : Int} {s : St} (h : Good base s) {e : Ent} (he : e ∈ s.st) (x : Int) : tyOf e x = if e.fo = 0 then x else e.fo := by
  have := h.fo e he
  unfold tyOf
  rcases this with h | h | h <;> simp [h]
/-- All that is known of a state on the way. -/
structure Known (base : Int) (k : Nat) (s : St) : Prop where
  inv : Inv base k s
  lo : Lo base s
  good : Good base s
theorem Known.start {base : Int} (hb : base = 0 ∨ base = 1) : Known base 0 (st0 base) := ⟨Inv.start hb, Lo.start base, Good.start base⟩
theorem Known.one {base : Int} {k : Nat} {s : St} (h : Known base k s) (x : Int) (r : List Int) : Known base (k + 1) (oneS base x r s).1 := ⟨h.inv.one x r, Lo.one h.inv h.lo x r, Good.one h.inv h.lo h.good x r⟩
/-- The state ahead of a place. -/
def stAt (base : Int) (xs : List Int) : Nat → St
  | 0 => st0 base
  | k + 1 => (oneS base (xs[k]?.getD 0) (xs.drop (k + 1)) (stAt base xs k)).1
theorem stAt_known {base : Int} (hb : base = 0 ∨ base = 1) (xs : List Int) : ∀ k, Known base k (stAt base xs k)
  | 0 => Known.start hb
  | k + 1 => (stAt_known hb xs k).one _ _
theorem resS_stAt (base : Int) (xs : List Int) : ∀ (k : Nat), k ≤ xs.length → (resS base xs (st0 base)).drop k = resS base (xs.drop k) (stAt base xs k)
  | 0, _ => by simp [stAt]
  | k + 1, h => by
    have ih := resS_stAt base xs k (by omega)
    rw [← List.drop_drop, ih, List.drop_eq_getElem_cons (show k < xs.length by omega)]
    simp only [resS, List.drop_succ_cons, List.drop_zero, stAt]
    rw [List.getElem?_eq_getElem (show k < xs.length by omega)]; rfl
theorem resF_at (base : Int) {xs : List Int} {k : Nat} {x : Int} (hx : xs[k]? = some x) : (resF xs base)[k]? = some (oneS base x (xs.drop (k + 1)) (stAt base xs k)).2 := by
  have hk := (List.getElem?_eq_some_iff.1 hx).1
  have h := resS_stAt base xs k (by omega)
  rw [resF_eq]
  have e : (resS base xs (st0 base))[k]? = ((resS base xs (st0 base)).drop k)[0]? := by simp
  rw [e, h, List.drop_eq_getElem_cons hk]
  have := (List.getElem?_eq_some_iff.1 hx).2
  simp [resS, this]
end Go.Proofs.Ytmakdbkffeodlaa
