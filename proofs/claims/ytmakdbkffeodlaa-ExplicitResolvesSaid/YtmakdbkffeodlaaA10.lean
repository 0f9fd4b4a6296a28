/-
  explicit.Resolve's model in plain Lean: one place at a time; and what its steps keep.
-/
import Derived.Test.YtmakdbkffeodlaaA9
namespace Go.Proofs.Ytmakdbkffeodlaa
open Go.RowKit Sl
set_option linter.unusedVariables false
set_option linter.unusedSimpArgs false
theorem matchGo_init (xs : List Int) : ∀ (r : List Int) (i : Nat) (out : List Int) (op : List Nat), xs.drop i = r → i ≤ xs.length → out.length = xs.length → (∀ q ∈ op, q < i) →
    (∀ j x, j < i → xs[j]? = some x → stB x = true → ∃ m : Nat, out[j]? = some (m : Int) ∧ j < m ∧ m ≤ xs.length) →
    ∀ j x, xs[j]? = some x → stB x = true → ∃ m : Nat, (matchGo xs.length r i out op)[j]? = some (m : Int) ∧ j < m ∧ m ≤ xs.length
  | [], i, out, op, hr, hi, ho, hop, h, j, x, hx, hs => by
    have hj := (List.getElem?_eq_some_iff.1 hx).1
    have hl := congrArg List.length hr
    simp at hl
    have : matchGo xs.length [] i out op = out := by simp [matchGo]
    rw [this]
    exact h j x (by omega) hx hs
  | y :: r, i, out, op, hr, hi, ho, hop, h, j, x, hx, hs => by
    have hl := congrArg List.length hr
    simp at hl
    have hy : xs[i]? = some y := by
      have : (xs.drop i)[0]? = some y := by rw [hr]; rfl
      simpa using this
    have hr' : xs.drop (i + 1) = r := by rw [← List.drop_drop, hr]; rfl
    have ne : ∀ (out' : List Int), (∀ j, j ≠ i → j < i → out'[j]? = out[j]?) → (∀ j x, j < i → xs[j]? = some x → stB x = true → ∃ m : Nat, out'[j]? = some (m : Int) ∧ j < m ∧ m ≤ xs.length) := by
      intro out' e j x hj hx hs
      rw [e j (by omega) hj]
      exact h j x hj hx hs
    cases hsy : stB y
    · by_cases h23 : y = 23
      · cases op with
        | nil =>
          rw [matchGo_end0 _ _ _ _ hsy h23]
          refine matchGo_init xs r (i + 1) _ [] hr' (by omega) (by simp [ho]) (by simp) ?_ j x hx hs
          intro j x hj hx hs
          by_cases e : j = i
          · subst e; rw [hy] at hx; cases hx; rw [hsy] at hs; cases hs
          · exact ne _ (fun j h1 h2 => by rw [List.getElem?_set_ne (by omega), List.getElem?_set_ne (by omega)]) j x (by omega) hx hs
        | cons k op =>
          rw [matchGo_end _ _ _ _ _ _ hsy h23]
          have hk := hop k (by simp)
          refine matchGo_init xs r (i + 1) _ op hr' (by omega) (by simp [ho]) (fun q hq => by have := hop q (by simp [hq]); omega) ?_ j x hx hs
          intro j x hj hx hs
          by_cases e : j = i
          · subst e; rw [hy] at hx; cases hx; rw [hsy] at hs; cases hs
          · by_cases e2 : j = k
            · subst e2
              exact ⟨i, by rw [List.getElem?_set_self (by simp; omega)], by omega, by omega⟩
            · rw [List.getElem?_set_ne (by omega)]
              exact ne _ (fun j h1 h2 => by rw [List.getElem?_set_ne (by omega), List.getElem?_set_ne (by omega)]) j x (by omega) hx hs
      · rw [matchGo_other _ _ _ _ _ hsy h23]
        refine matchGo_init xs r (i + 1) _ op hr' (by omega) (by simp [ho]) (fun q hq => by have := hop q hq; omega) ?_ j x hx hs
        intro j x hj hx hs
        by_cases e : j = i
        · subst e; rw [hy] at hx; cases hx; rw [hsy] at hs; cases hs
        · exact ne _ (fun j h1 h2 => by rw [List.getElem?_set_ne (by omega)]) j x (by omega) hx hs
    · rw [matchGo_start _ _ _ _ _ hsy]
      refine matchGo_init xs r (i + 1) _ (i :: op) hr' (by omega) (by simp [ho]) (fun q hq => by rcases List.mem_cons.1 hq with rfl | h; omega; (have := hop q h; omega)) ?_ j x hx hs
      intro j x hj hx hs
      by_cases e : j = i
      · subst e
        exact ⟨xs.length, by rw [List.getElem?_set_self (by simp; omega)], by omega, by omega⟩
      · exact ne _ (fun j h1 h2 => by rw [List.getElem?_set_ne (by omega), List.getElem?_set_ne (by omega)]) j x (by omega) hx hs
theorem matchF_init {xs : List Int} {j : Nat} {x : Int} (hx : xs[j]? = some x) (hs : stB x = true) : ∃ m : Nat, (matchF xs)[j]? = some (m : Int) ∧ j < m ∧ m ≤ xs.length :=
  matchGo_init xs xs 0 _ [] (by simp) (Nat.zero_le _) (by simp) (by simp) (fun j x h => absurd h (by omega)) j x hx hs
theorem matchGo_length (n : Nat) : ∀ (r : List Int) (i : Nat) (out : List Int) (op : List Nat), (matchGo n r i out op).length = out.length
  | [], i, out, op => by simp [matchGo]
  | y :: r, i, out, op => by
    cases op <;> simp only [matchGo] <;> repeat' split
    all_goals (rw [matchGo_length]; simp)
theorem matchF_length (xs : List Int) : (matchF xs).length = xs.length := by simp [matchF, matchGo_length]
/-- The type that a place gets. -/
def tyOf (e : Ent) (x : Int) : Int := if e.fo = 1 then 1 else if e.fo = 2 then 2 else x
def topE (s : St) : Ent := s.st.headD ⟨0, 0, false⟩
/-- One place: the state behind it, its level, its type. -/
def resOne (xs : List Int) (base : Int) (i : Nat) (x : Int) (s : St) : St × Int × Int :=
  if x = 17 ∨ x = 15 ∨ x = 18 ∨ x = 16 then (embedS s x, -1, x)
  else if x = 21 ∨ x = 20 ∨ x = 22 then (beginS s (rightB xs x i ((matchF xs)[i]?.getD 0).toNat), (topE s).lv, tyOf (topE s) x)
  else if x = 23 then (endS s, (topE (endS s)).lv, tyOf (topE (endS s)) x)
  else if x = 19 then (popS base s, -1, x)
  else if x = 10 then (s, -1, x)
  else if x = 11 then (s, base, x)
  else (s, (topE s).lv, tyOf (topE s) x)
def resGo (xs : List Int) (base : Int) : List Int → Nat → St → List (Int × Int)
  | [], _, _ => []
  | x :: r, i, s => (resOne xs base i x s).2 :: resGo xs base r (i + 1) (resOne xs base i x s).1
def resF (xs : List Int) (base : Int) : List (Int × Int) := resGo xs base xs 0 ⟨[⟨base, 0, false⟩], 0, 0, 0⟩
/-- How many entries are an isolate's. -/
def isoN (l : List Ent) : Int := l.countP (·.iso)
structure Inv (base : Int) (k : Nat) (s : St) : Prop where
  bottom : ∃ l, s.st = l ++ [⟨base, 0, false⟩]
  lo : ∀ e ∈ s.st, 0 ≤ e.lv ∧ e.lv ≤ 125
  val : s.val = isoN s.st
  iso0 : 0 ≤ s.iso
  iso1 : s.iso ≤ k
  emb0 : 0 ≤ s.emb
  emb1 : s.emb ≤ k
  len : s.st.length ≤ k + 1
theorem nextL_lo {lv : Int} {right : Bool} (h : 0 ≤ lv) : 0 ≤ nextL lv right := by unfold nextL; split <;> omega
theorem cutS_mem : ∀ {l : List Ent} {e : Ent}, e ∈ cutS l → e ∈ l
  | x :: l, e, h => by
    simp only [cutS] at h
    split at h
    · exact List.mem_cons_of_mem _ h
    · exact List.mem_cons_of_mem _ (cutS_mem h)
theorem cutS_len : ∀ (l : List Ent), (cutS l).length ≤ l.length
  | [] => Nat.le_refl _
  | x :: l => by
    simp only [cutS]
    split
    · simp
    · have := cutS_len l; simp; omega
theorem cutS_app (b : Ent) (hb : b.iso = false) : ∀ (l : List Ent), 0 < isoN (l ++ [b]) → (∃ l', cutS (l ++ [b]) = l' ++ [b]) ∧ isoN (cutS (l ++ [b])) = isoN (l ++ [b]) - 1
  | [], h => by simp [isoN, hb] at h
  | x :: l, h => by
    simp only [List.cons_append, cutS]
    cases hx : x.iso
    · have e : isoN (x :: (l ++ [b])) = isoN (l ++ [b]) := by simp [isoN, hx]
      rw [List.cons_append, e] at h
      simp only [Bool.false_eq_true, if_false]
      rw [e]
      exact cutS_app b hb l h
    · simp only [if_true]
      exact ⟨⟨l, rfl⟩, by simp [isoN, hx]⟩
theorem Inv.start {base : Int} (h : base = 0 ∨ base = 1) : Inv base 0 ⟨[⟨base, 0, false⟩], 0, 0, 0⟩ where
  bottom := ⟨[], rfl⟩
  lo := by intro e he; simp at he; subst he; rcases h with h | h <;> simp [h]
  val := by simp [isoN]
  iso0 := Int.le_refl _
  iso1 := Int.le_refl _
  emb0 := Int.le_refl _
  emb1 := Int.le_refl _
  len := by simp
theorem Inv.top {base : Int} {k : Nat} {s : St} (h : Inv base k s) : ∃ x st, s.st = x :: st ∧ topE s = x := by
  obtain ⟨l, hl⟩ := h.bottom
  cases l with
  | nil => exact ⟨_, [], hl, by simp [topE, hl]⟩
  | cons x l => exact ⟨x, l ++ [⟨base, 0, false⟩], by rw [hl]; rfl, by simp [topE, hl]⟩
theorem Inv.up {base : Int} {k : Nat} {s : St} (h : Inv base k s) : Inv base (k + 1) s where
  bottom := h.bottom
  lo := h.lo
  val := h.val
  iso0 := h.iso0
  iso1 := by have := h.iso1; omega
  emb0 := h.emb0
  emb1 := by have := h.emb1; omega
  len := by have := h.len; omega
theorem Inv.push {base : Int} {k : Nat} {s : St} (h : Inv base k s) {x : Ent} {st : List Ent} (hs : s.st = x :: st) (right : Bool) (f : Int) (iso : Bool) (hb : nextB x.lv right s.iso s.emb = true) :
    Inv base (k + 1) {s with st := ⟨nextL x.lv right, f, iso⟩ :: s.st, val := s.val + if iso then 1 else 0} where
  bottom := by obtain ⟨l, hl⟩ := h.bottom; exact ⟨⟨nextL x.lv right, f, iso⟩ :: l, by simp [hl]⟩
  lo := by
    intro e he
    rcases List.mem_cons.1 he with rfl | he
    · have h1 := h.lo x (by simp [hs])
      have h2 : nextL x.lv right ≤ 125 := by simp only [nextB, decide_eq_true_eq] at hb; exact hb.1
      exact ⟨nextL_lo h1.1, h2⟩
    · exact h.lo e he
  val := by cases iso <;> simp [isoN, h.val]
  iso0 := h.iso0
  iso1 := by have := h.iso1; show s.iso ≤ _; omega
  emb0 := h.emb0
  emb1 := by have := h.emb1; show s.emb ≤ _; omega
  len := by have := h.len; simp; omega
theorem Inv.embed {base : Int} {k : Nat} {s : St} (h : Inv base k s) (cls : Int) : Inv base (k + 1) (embedS s cls) := by
  obtain ⟨x, st, hs, _⟩ := h.top
  simp only [embedS, hs]
  split
  · rename_i hb
    have := h.push hs (embR cls) (embF cls) false hb
    simpa [hs] using this
  · split
    · have e := h.up
      refine { bottom := ?_, lo := ?_, val := ?_, iso0 := e.iso0, iso1 := e.iso1, emb0 := ?_, emb1 := ?_, len := ?_ }
      · rw [← hs]; exact e.bottom
      · rw [← hs]; exact e.lo
      · rw [← hs]; exact e.val
      · have := h.emb0; show (0 : Int) ≤ s.emb + 1; omega
      · have := h.emb1; show s.emb + 1 ≤ ((k + 1 : Nat) : Int); omega
      · rw [← hs]; exact e.len
    · exact h.up
theorem Inv.begin {base : Int} {k : Nat} {s : St} (h : Inv base k s) (right : Bool) : Inv base (k + 1) (beginS s right) := by
  obtain ⟨x, st, hs, _⟩ := h.top
  simp only [beginS, hs]
  split
  · rename_i hb
    have := h.push hs right 0 true hb
    simpa [hs] using this
  · have e := h.up
    refine { bottom := ?_, lo := ?_, val := ?_, iso0 := ?_, iso1 := ?_, emb0 := e.emb0, emb1 := e.emb1, len := ?_ }
    · rw [← hs]; exact e.bottom
    · rw [← hs]; exact e.lo
    · rw [← hs]; exact e.val
    · have := h.iso0; show (0 : Int) ≤ s.iso + 1; omega
    · have := h.iso1; show s.iso + 1 ≤ ((k + 1 : Nat) : Int); omega
    · rw [← hs]; exact e.len
theorem Inv.end {base : Int} {k : Nat} {s : St} (h : Inv base k s) : Inv base (k + 1) (endS s) := by
  have e := h.up
  unfold endS
  split
  · rename_i hi
    refine { bottom := e.bottom, lo := e.lo, val := e.val, iso0 := ?_, iso1 := ?_, emb0 := e.emb0, emb1 := e.emb1, len := e.len }
    · show (0 : Int) ≤ s.iso - 1; omega
    · have := h.iso1; show s.iso - 1 ≤ ((k + 1 : Nat) : Int); omega
  · split
    · rename_i hv
      obtain ⟨l, hl⟩ := h.bottom
      have hv2 : 0 < isoN (l ++ [⟨base, 0, false⟩]) := by rw [← hl, ← h.val]; exact hv
      obtain ⟨⟨l', h1⟩, h2⟩ := cutS_app ⟨base, 0, false⟩ rfl l hv2
      rw [← hl] at h1 h2
      refine { bottom := ⟨l', h1⟩, lo := fun x hx => h.lo x (cutS_mem hx), val := ?_, iso0 := e.iso0, iso1 := e.iso1, emb0 := Int.le_refl _, emb1 := ?_, len := ?_ }
      · show s.val - 1 = isoN (cutS s.st); rw [h2, h.val]
      · show (0 : Int) ≤ ((k + 1 : Nat) : Int); omega
      · have := h.len; have := cutS_len s.st; show (cutS s.st).length ≤ k + 1 + 1; omega
    · exact e
theorem Inv.pop {base : Int} {k : Nat} {s : St} (h : Inv base k s) : Inv base (k + 1) (popS base s) := by
  have e := h.up
  obtain ⟨x, st, hs, _⟩ := h.top
  simp only [popS, hs]
  split
  · exact e
  split
  · rename_i hi he
    refine { bottom := by rw [← hs]; exact e.bottom, lo := by rw [← hs]; exact e.lo, val := by rw [← hs]; exact e.val, iso0 := e.iso0, iso1 := e.iso1, emb0 := ?_, emb1 := ?_, len := by rw [← hs]; exact e.len }
    · show (0 : Int) ≤ s.emb - 1; omega
    · have := h.emb1; show s.emb - 1 ≤ ((k + 1 : Nat) : Int); omega
  split
  · rename_i hi he hx
    obtain ⟨l, hl⟩ := h.bottom
    have hb : ∃ l', st = l' ++ [⟨base, 0, false⟩] := by
      cases l with
      | nil =>
        rw [hs] at hl; simp at hl
        obtain ⟨rfl, rfl⟩ := hl
        simp at hx
      | cons y l => rw [hs] at hl; simp at hl; exact ⟨l, hl.2⟩
    have hxi : x.iso = false := by
      cases hh : x.iso
      · rfl
      · rw [hh] at hx; simp at hx
    refine { bottom := hb, lo := fun y hy => h.lo y (by rw [hs]; exact List.mem_cons_of_mem _ hy), val := ?_, iso0 := e.iso0, iso1 := e.iso1, emb0 := e.emb0, emb1 := e.emb1, len := ?_ }
    · show s.val = isoN st; rw [h.val, hs]; simp [isoN, hxi]
    · have := h.len; rw [hs] at this; simp at this; show st.length ≤ k + 1 + 1; omega
  · exact e
theorem Inv.popOk {base : Int} {k : Nat} {s : St} (h : Inv base k s) {x : Ent} {st : List Ent} (hs : s.st = x :: st) : (!x.iso && !(x.lv == base && (x.fo == 0 && x.iso == false))) = true → st ≠ [] := by
  intro hx e
  obtain ⟨l, hl⟩ := h.bottom
  rw [hs, e] at hl
  cases l with
  | nil => simp at hl; subst hl; simp at hx
  | cons y l => simp at hl
end Go.Proofs.Ytmakdbkffeodlaa
