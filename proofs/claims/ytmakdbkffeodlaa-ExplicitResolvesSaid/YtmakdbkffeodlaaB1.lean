/-
  Plain laws of Resolve's model: an initiator's PDI, an isolate's direction, by what stands behind it alone; what an isolate's entry was.
-/
import Derived.Test.YtmakdbkffeodlaaA10
namespace Go.Proofs.Ytmakdbkffeodlaa
open Go.RowKit Sl
set_option linter.unusedVariables false
set_option linter.unusedSimpArgs false
/-- How many places there are ahead of the PDI that closes; all, if there is none. -/
def pdiGo : Nat → List Int → Nat
  | _, [] => 0
  | n, x :: r => if stB x then pdiGo (n + 1) r + 1 else if x = 23 then (match n with | 0 => 0 | n + 1 => pdiGo n r + 1) else pdiGo n r + 1
/-- Does what an initiator opens go to the left? By what stands behind it. -/
def dirGo : Nat → List Int → Bool
  | _, [] => false
  | n, x :: r => if stB x then dirGo (n + 1) r else if x = 23 then (match n with | 0 => false | n + 1 => dirGo n r) else if n = 0 ∧ x = 1 then false else if n = 0 ∧ (x = 2 ∨ x = 3) then true else dirGo n r
theorem pdiGo_le : ∀ (n : Nat) (r : List Int), pdiGo n r ≤ r.length
  | _, [] => Nat.le_refl _
  | n, x :: r => by
    simp only [pdiGo, List.length_cons]
    split
    · have := pdiGo_le (n + 1) r; omega
    · split
      · cases n with
        | zero => simp
        | succ n => have := pdiGo_le n r; simp only; omega
      · have := pdiGo_le n r; omega
theorem pdiGo_at : ∀ (n : Nat) (r : List Int), pdiGo n r < r.length → r[pdiGo n r]? = some 23
  | _, [], h => absurd h (by simp [pdiGo])
  | n, x :: r, h => by
    simp only [pdiGo, List.length_cons] at h ⊢
    split
    · rename_i hs; rw [if_pos hs] at h; simp only [List.getElem?_cons_succ]; exact pdiGo_at (n + 1) r (by omega)
    · rename_i hs; rw [if_neg hs] at h
      split
      · rename_i h23; rw [if_pos h23] at h
        cases n with
        | zero => simp [h23]
        | succ n => simp only at h ⊢; simp only [List.getElem?_cons_succ]; exact pdiGo_at n r (by omega)
      · rename_i h23; rw [if_neg h23] at h; simp only [List.getElem?_cons_succ]; exact pdiGo_at n r (by omega)
theorem baseGo_dir : ∀ (n : Nat) (r : List Int), baseGo (r.take (pdiGo n r)) (n : Int) = if dirGo n r then 1 else 0
  | n, [] => by simp [pdiGo, dirGo, baseGo]
  | n, x :: r => by
    by_cases hs : stB x = true
    · have ih := baseGo_dir (n + 1) r
      simp only [pdiGo, dirGo, if_pos hs, List.take_succ_cons, baseGo]
      exact_mod_cast ih
    · by_cases h23 : x = 23
      · cases n with
        | zero => simp only [pdiGo, dirGo, if_neg hs, if_pos h23, List.take_zero, baseGo]; rfl
        | succ n =>
          have ih := baseGo_dir n r
          simp only [pdiGo, dirGo, if_neg hs, if_pos h23, List.take_succ_cons, baseGo]
          rw [← ih]
          congr 1
          split <;> omega
      · have ih := baseGo_dir n r
        simp only [pdiGo, dirGo, if_neg hs, if_neg h23, List.take_succ_cons, baseGo]
        by_cases h1 : x = 1
        · by_cases hn : n = 0
          · subst hn; simp [h1]
          · have hn' : ¬ ((n : Int) = 0) := by omega
            simp only [h1, hn, hn', if_true, if_false, false_and]; exact ih
        · by_cases h2 : x = 2 ∨ x = 3
          · by_cases hn : n = 0
            · subst hn; simp [h1, h2]
            · have hn' : ¬ ((n : Int) = 0) := by omega
              simp only [h1, h2, hn, hn', if_true, if_false, false_and]; exact ih
          · simp only [h1, h2, if_false, and_false]; exact ih
/-- Match, by its parts: what waits, what lies ahead and does not wait, what lies behind. -/
theorem matchGo_parts (xs : List Int) : ∀ (r : List Int) (i : Nat) (out : List Int) (op : List Nat), xs.drop i = r → i ≤ xs.length → out.length = xs.length → (∀ q ∈ op, q < i) → op.Nodup →
    (∀ (d j : Nat), op[d]? = some j → out[j]? = some (xs.length : Int)) →
    (∀ (d j : Nat), op[d]? = some j → (matchGo xs.length r i out op)[j]? = some ((i + pdiGo d r : Nat) : Int)) ∧
    (∀ (j : Nat), j < i → j ∉ op → (matchGo xs.length r i out op)[j]? = out[j]?) ∧
    (∀ (j : Nat) (x : Int), i ≤ j → xs[j]? = some x → stB x = true → (matchGo xs.length r i out op)[j]? = some ((j + 1 + pdiGo 0 (xs.drop (j + 1)) : Nat) : Int))
  | [], i, out, op, hr, hi, ho, hop, hnd, h => by
    have hl := congrArg List.length hr
    simp at hl
    have : matchGo xs.length [] i out op = out := by simp [matchGo]
    rw [this]
    refine ⟨fun d j hd => ?_, fun j _ _ => rfl, fun j x hj hx => ?_⟩
    · rw [h d j hd]; simp [pdiGo]; omega
    · have := (List.getElem?_eq_some_iff.1 hx).1; omega
  | y :: r, i, out, op, hr, hi, ho, hop, hnd, h => by
    have hl := congrArg List.length hr
    simp at hl
    have hy : xs[i]? = some y := by
      have : (xs.drop i)[0]? = some y := by rw [hr]; rfl
      simpa using this
    have hr' : xs.drop (i + 1) = r := by rw [← List.drop_drop, hr]; rfl
    cases hsy : stB y
    · by_cases h23 : y = 23
      · cases op with
        | nil =>
          rw [matchGo_end0 _ _ _ _ hsy h23]
          obtain ⟨h1, h2, h3⟩ := matchGo_parts xs r (i + 1) ((out.set i i).set i (-1)) [] hr' (by omega) (by simp [ho]) (by simp) (by simp) (by simp)
          refine ⟨by simp, fun j hj _ => ?_, fun j x hj hx hs => ?_⟩
          · rw [h2 j (by omega) (by simp), List.getElem?_set_ne (by omega), List.getElem?_set_ne (by omega)]
          · have : j ≠ i := fun e => by subst e; rw [hy] at hx; cases hx; rw [hsy] at hs; cases hs
            exact h3 j x (by omega) hx hs
        | cons k op =>
          rw [matchGo_end _ _ _ _ _ _ hsy h23]
          have hk := hop k (by simp)
          have hnd' := List.nodup_cons.1 hnd
          obtain ⟨h1, h2, h3⟩ := matchGo_parts xs r (i + 1) (((out.set i i).set i k).set k i) op hr' (by omega) (by simp [ho]) (fun q hq => by have := hop q (by simp [hq]); omega) hnd'.2
            (fun d j hd => by
              have hj : j ∈ op := List.mem_of_getElem? hd
              have h1 : j ≠ k := fun e => hnd'.1 (e ▸ hj)
              have h2 := hop j (by simp [hj])
              rw [List.getElem?_set_ne (by omega), List.getElem?_set_ne (by omega), List.getElem?_set_ne (by omega)]
              exact h (d + 1) j (by simpa using hd))
          refine ⟨fun d j hd => ?_, fun j hj hn => ?_, fun j x hj hx hs => ?_⟩
          · cases d with
            | zero =>
              simp at hd; subst hd
              rw [h2 k (by omega) hnd'.1, List.getElem?_set_self (by simp; omega)]
              simp [pdiGo, h23, show stB 23 = false from rfl]
            | succ d =>
              simp at hd
              rw [h1 d j hd]
              simp only [pdiGo, h23, show stB 23 = false from rfl, if_true, Bool.false_eq_true, if_false]
              congr 2; omega
          · simp at hn
            rw [h2 j (by omega) hn.2, List.getElem?_set_ne (by omega), List.getElem?_set_ne (by omega), List.getElem?_set_ne (by omega)]
          · have : j ≠ i := fun e => by subst e; rw [hy] at hx; cases hx; rw [hsy] at hs; cases hs
            exact h3 j x (by omega) hx hs
      · rw [matchGo_other _ _ _ _ _ hsy h23]
        obtain ⟨h1, h2, h3⟩ := matchGo_parts xs r (i + 1) (out.set i i) op hr' (by omega) (by simp [ho]) (fun q hq => by have := hop q hq; omega) hnd
          (fun d j hd => by
            have h2 := hop j (List.mem_of_getElem? hd)
            rw [List.getElem?_set_ne (by omega)]
            exact h d j hd)
        refine ⟨fun d j hd => ?_, fun j hj hn => ?_, fun j x hj hx hs => ?_⟩
        · rw [h1 d j hd]
          simp only [pdiGo, hsy, h23, if_false, Bool.false_eq_true]
          congr 2; omega
        · rw [h2 j (by omega) hn, List.getElem?_set_ne (by omega)]
        · have : j ≠ i := fun e => by subst e; rw [hy] at hx; cases hx; rw [hsy] at hs; cases hs
          exact h3 j x (by omega) hx hs
    · rw [matchGo_start _ _ _ _ _ hsy]
      have hni : i ∉ op := fun hm => by have := hop i hm; omega
      obtain ⟨h1, h2, h3⟩ := matchGo_parts xs r (i + 1) ((out.set i i).set i xs.length) (i :: op) hr' (by omega) (by simp [ho]) (fun q hq => by rcases List.mem_cons.1 hq with rfl | h; omega; (have := hop q h; omega)) (List.nodup_cons.2 ⟨hni, hnd⟩)
        (fun d j hd => by
          cases d with
          | zero => simp at hd; subst hd; rw [List.getElem?_set_self (by simp; omega)]
          | succ d =>
            simp at hd
            have h2 := hop j (List.mem_of_getElem? hd)
            rw [List.getElem?_set_ne (by omega), List.getElem?_set_ne (by omega)]
            exact h d j hd)
      refine ⟨fun d j hd => ?_, fun j hj hn => ?_, fun j x hj hx hs => ?_⟩
      · rw [h1 (d + 1) j (by simpa using hd)]
        simp only [pdiGo, hsy, if_true]
        congr 2; omega
      · rw [h2 j (by omega) (by simp [hn]; omega), List.getElem?_set_ne (by omega), List.getElem?_set_ne (by omega)]
      · by_cases e : j = i
        · subst e
          rw [h1 0 j (by simp), hr']
        · exact h3 j x (by omega) hx hs
theorem matchF_at {xs : List Int} {j : Nat} {x : Int} (hx : xs[j]? = some x) (hs : stB x = true) : (matchF xs)[j]? = some ((j + 1 + pdiGo 0 (xs.drop (j + 1)) : Nat) : Int) :=
  (matchGo_parts xs xs 0 _ [] (by simp) (Nat.zero_le _) (by simp) (by simp) (by simp) (by simp)).2.2 j x (Nat.zero_le _) hx hs
/-- One place, by what stands behind it. -/
def oneS (base : Int) (x : Int) (r : List Int) (s : St) : St × Int × Int :=
  if x = 17 ∨ x = 15 ∨ x = 18 ∨ x = 16 then (embedS s x, -1, x)
  else if x = 21 ∨ x = 20 ∨ x = 22 then (beginS s (if x = 22 then dirGo 0 r else decide (x = 21)), (topE s).lv, tyOf (topE s) x)
  else if x = 23 then (endS s, (topE (endS s)).lv, tyOf (topE (endS s)) x)
  else if x = 19 then (popS base s, -1, x)
  else if x = 10 then (s, -1, x)
  else if x = 11 then (s, base, x)
  else (s, (topE s).lv, tyOf (topE s) x)
def resS (base : Int) : List Int → St → List (Int × Int)
  | [], _ => []
  | x :: r, s => (oneS base x r s).2 :: resS base r (oneS base x r s).1
theorem resOne_eq {xs : List Int} {base : Int} {i : Nat} {x : Int} {r : List Int} (hr : xs.drop i = x :: r) (s : St) : resOne xs base i x s = oneS base x r s := by
  have hx : xs[i]? = some x := by
    have : (xs.drop i)[0]? = some x := by rw [hr]; rfl
    simpa using this
  have hr' : xs.drop (i + 1) = r := by rw [← List.drop_drop, hr]; rfl
  unfold resOne oneS
  split
  · rfl
  · split
    · rename_i h1 h2
      have hs : stB x = true := by rcases h2 with h | h | h <;> simp [stB, h]
      rw [matchF_at hx hs, hr']
      have e : rightB xs x i ((some (((i + 1 + pdiGo 0 r : Nat)) : Int)).getD 0).toNat = (if x = 22 then dirGo 0 r else decide (x = 21)) := by
        unfold rightB
        split
        · have h3 := baseGo_dir 0 r
          have h4 : (xs.take (i + 1 + pdiGo 0 r)).drop (i + 1) = r.take (pdiGo 0 r) := by
            rw [List.drop_take, hr', show i + 1 + pdiGo 0 r - (i + 1) = pdiGo 0 r by omega]
          simp only [Option.getD_some, Int.toNat_natCast]
          have h5 : baseGo (r.take (pdiGo 0 r)) 0 = if dirGo 0 r then 1 else 0 := h3
          simp only [h4, h5]
          cases dirGo 0 r <;> simp
        · rfl
      rw [e]
    · rfl
theorem resGo_eq (xs : List Int) (base : Int) : ∀ (r : List Int) (i : Nat) (s : St), xs.drop i = r → resGo xs base r i s = resS base r s
  | [], _, _, _ => rfl
  | x :: r, i, s, hr => by
    have hr' : xs.drop (i + 1) = r := by rw [← List.drop_drop, hr]; rfl
    simp only [resGo, resS, resOne_eq hr, resGo_eq xs base r (i + 1) _ hr']
def st0 (base : Int) : St := ⟨[⟨base, 0, false⟩], 0, 0, 0⟩
theorem resF_eq (xs : List Int) (base : Int) : resF xs base = resS base xs (st0 base) := resGo_eq xs base xs 0 _ (by simp)
theorem resS_length (base : Int) : ∀ (r : List Int) (s : St), (resS base r s).length = r.length
  | [], _ => rfl
  | x :: r, s => by simp [resS, resS_length base r]
/-! ### Whatever holds from place to place -/
theorem Inv.one {base : Int} {k : Nat} {s : St} (h : Inv base k s) (x : Int) (r : List Int) : Inv base (k + 1) (oneS base x r s).1 := by
  unfold oneS
  split
  · exact h.embed x
  split
  · exact h.begin _
  split
  · exact h.end
  split
  · exact h.pop
  split
  · exact h.up
  split
  · exact h.up
  · exact h.up
/-- Each place, with the state ahead of it. -/
theorem resS_at (base : Int) (P : St → Prop) (hP : ∀ x r s, P s → P (oneS base x r s).1) : ∀ (r : List Int) (s : St), P s → ∀ j x, r[j]? = some x → ∃ s', P s' ∧ (resS base r s)[j]? = some (oneS base x (r.drop (j + 1)) s').2 ∧ (resS base r s).drop (j + 1) = resS base (r.drop (j + 1)) (oneS base x (r.drop (j + 1)) s').1
  | [], _, _, j, x, hx => by simp at hx
  | y :: r, s, hs, 0, x, hx => by simp at hx; subst hx; exact ⟨s, hs, rfl, rfl⟩
  | y :: r, s, hs, j + 1, x, hx => by
    obtain ⟨s', h1, h2, h3⟩ := resS_at base P hP r _ (hP y r s hs) j x (by simpa using hx)
    exact ⟨s', h1, by simpa [resS] using h2, by simpa [resS] using h3⟩
/-! ### The entries that isolates met -/
def isoTops : List Ent → List Ent
  | [] => []
  | e :: l => if e.iso then l.headD ⟨0, 0, false⟩ :: isoTops l else isoTops l
def tops (s : St) : List Ent := List.replicate s.iso.toNat (topE s) ++ isoTops s.st
theorem isoTops_len : ∀ l : List Ent, ((isoTops l).length : Int) = isoN l
  | [] => rfl
  | e :: l => by
    have ih := isoTops_len l
    cases h : e.iso <;> simp [isoTops, isoN, h] at * <;> omega
theorem isoTops_cut : ∀ (l : List Ent) (t : Ent) (T : List Ent), isoTops l = t :: T → (cutS l).headD ⟨0, 0, false⟩ = t ∧ isoTops (cutS l) = T
  | [], t, T, h => by simp [isoTops] at h
  | e :: l, t, T, h => by
    simp only [isoTops, cutS] at *
    split
    · rename_i hi; rw [if_pos hi] at h; simp only [List.cons.injEq] at h; exact h
    · rename_i hi; rw [if_neg hi] at h; exact isoTops_cut l t T h
theorem tops_embed {s : St} {x : Ent} {st : List Ent} (hs : s.st = x :: st) (h0 : 0 ≤ s.iso) (c : Int) : tops (embedS s c) = tops s := by
  simp only [embedS, hs]
  split
  · rename_i hb
    have : s.iso = 0 := by simp only [nextB, decide_eq_true_eq] at hb; exact hb.2.1
    simp [tops, this, isoTops, hs]
  · split
    · simp [tops, topE, hs]
    · rfl
theorem tops_pop {s : St} {x : Ent} {st : List Ent} (hs : s.st = x :: st) (h0 : 0 ≤ s.iso) (base : Int) : tops (popS base s) = tops s := by
  simp only [popS, hs]
  split
  · rfl
  split
  · simp [tops, topE, hs]
  split
  · rename_i h1 h2 h3
    have : s.iso = 0 := by omega
    have hx : x.iso = false := by cases h : x.iso <;> simp_all
    simp [tops, this, isoTops, hs, hx]
  · rfl
theorem tops_begin {s : St} {x : Ent} {st : List Ent} (hs : s.st = x :: st) (h0 : 0 ≤ s.iso) (right : Bool) : tops (beginS s right) = topE s :: tops s := by
  simp only [beginS, hs]
  split
  · rename_i hb
    have : s.iso = 0 := by simp only [nextB, decide_eq_true_eq] at hb; exact hb.2.1
    simp [tops, this, isoTops, hs, topE]
  · have : (s.iso + 1).toNat = s.iso.toNat + 1 := by omega
    simp [tops, topE, hs, this, List.replicate_succ]
theorem tops_end {base : Int} {k : Nat} {s : St} (h : Inv base k s) {t : Ent} {T : List Ent} (ht : tops s = t :: T) : topE (endS s) = t ∧ tops (endS s) = T := by
  have h0 := h.iso0
  unfold endS
  split
  · rename_i hi
    obtain ⟨m, hm⟩ : ∃ m : Nat, s.iso.toNat = m + 1 := ⟨s.iso.toNat - 1, by omega⟩
    have hm2 : (s.iso - 1).toNat = m := by omega
    rw [tops, hm, List.replicate_succ, List.cons_append] at ht
    simp only [List.cons.injEq] at ht
    exact ⟨ht.1, by rw [← ht.2]; simp [tops, hm2, topE]⟩
  · rename_i hi
    have hz : s.iso = 0 := by omega
    have ht' : isoTops s.st = t :: T := by simpa [tops, hz] using ht
    have hv : s.val > 0 := by
      rw [h.val, ← isoTops_len, ht']; simp
    rw [if_pos hv]
    have := isoTops_cut _ _ _ ht'
    exact ⟨this.1, by simp [tops, hz, this.2]⟩
theorem tops_end0 {base : Int} {k : Nat} {s : St} (h : Inv base k s) (ht : tops s = []) : endS s = s := by
  have h0 := h.iso0
  have h1 : s.iso.toNat = 0 ∧ isoTops s.st = [] := by simpa [tops] using ht
  have hv : s.val = 0 := by rw [h.val, ← isoTops_len, h1.2]; rfl
  unfold endS
  rw [if_neg (by omega), if_neg (by omega)]
/-- Behind what an isolate's initiator opened: its PDI has the entry that the initiator met. -/
theorem resS_pdi (base : Int) : ∀ (r : List Int) (n k : Nat) (s : St) (U : List Ent) (t : Ent) (T : List Ent), Inv base k s → tops s = U ++ t :: T → U.length = n → pdiGo n r < r.length → (resS base r s)[pdiGo n r]? = some (t.lv, tyOf t 23)
  | [], _, _, _, _, _, _, _, _, _, h => absurd h (by simp)
  | x :: r, n, k, s, U, t, T, hI, hT, hU, h => by
    obtain ⟨e, st, hs, htop⟩ := hI.top
    have hI' := hI.one x r
    have h0 := hI.iso0
    have next : ∀ (m : Nat) (U' : List Ent), tops (oneS base x r s).1 = U' ++ t :: T → U'.length = m → pdiGo n (x :: r) = pdiGo m r + 1 → (resS base (x :: r) s)[pdiGo n (x :: r)]? = some (t.lv, tyOf t 23) := by
      intro m U' h1 h2 h3
      rw [h3] at h ⊢
      simp only [resS, List.getElem?_cons_succ]
      exact resS_pdi base r m (k + 1) _ U' t T hI' h1 h2 (by simpa using h)
    by_cases hs1 : stB x = true
    · refine next (n + 1) (topE s :: U) ?_ (by simp [hU]) (by simp [pdiGo, hs1])
      have hx : x = 20 ∨ x = 21 ∨ x = 22 := by simpa [stB, or_assoc] using hs1
      have : (oneS base x r s).1 = beginS s (if x = 22 then dirGo 0 r else decide (x = 21)) := by
        rcases hx with rfl | rfl | rfl <;> simp [oneS]
      rw [this, tops_begin hs h0, hT, List.cons_append]
    · have hsn : ¬ (x = 21 ∨ x = 20 ∨ x = 22) := by
        intro h; apply hs1; rcases h with h | h | h <;> simp [stB, h]
      by_cases h23 : x = 23
      · have e1 : oneS base x r s = (endS s, (topE (endS s)).lv, tyOf (topE (endS s)) x) := by subst h23; simp [oneS]
        cases n with
        | zero =>
          have : U = [] := List.eq_nil_of_length_eq_zero hU
          subst this
          obtain ⟨h1, h2⟩ := tops_end hI hT
          simp only [pdiGo, hs1, h23, if_true, Bool.false_eq_true, if_false, resS]
          rw [h23] at e1
          rw [e1, h1]; rfl
        | succ n =>
          cases U with
          | nil => simp at hU
          | cons u U =>
            obtain ⟨h1, h2⟩ := tops_end hI (by simpa using hT)
            refine next n U ?_ (by simpa using hU) (by subst h23; simp [pdiGo, stB])
            rw [e1]; exact h2
      · refine next n U ?_ hU (by simp [pdiGo, hs1, h23])
        rw [← hT]
        unfold oneS
        split
        · exact tops_embed hs h0 x
        · split
          · exact tops_pop hs h0 base
          split
          · rfl
          split <;> rfl
/-- An initiator and its PDI have one level, and one override. -/
theorem resS_pair (base : Int) {xs : List Int} {s : St} {k : Nat} (hI : Inv base k s) {i : Nat} {x : Int} (hx : xs[i]? = some x) (hs : stB x = true) (hm : i + 1 + pdiGo 0 (xs.drop (i + 1)) < xs.length) :
    ∃ t : Ent, (resS base xs s)[i]? = some (t.lv, tyOf t x) ∧ (resS base xs s)[i + 1 + pdiGo 0 (xs.drop (i + 1))]? = some (t.lv, tyOf t 23) := by
  obtain ⟨s', ⟨k', hI'⟩, h1, h2⟩ := resS_at base (fun s => ∃ k, Inv base k s) (fun x r s ⟨k, h⟩ => ⟨k + 1, h.one x r⟩) xs s ⟨k, hI⟩ i x hx
  obtain ⟨e, st, hst, htop⟩ := hI'.top
  have hx' : x = 21 ∨ x = 20 ∨ x = 22 := by
    have : x = 20 ∨ x = 21 ∨ x = 22 := by simpa [stB, or_assoc] using hs
    omega
  have e1 : ∃ b, oneS base x (xs.drop (i + 1)) s' = (beginS s' b, (topE s').lv, tyOf (topE s') x) := by
    refine ⟨if x = 22 then dirGo 0 (xs.drop (i + 1)) else decide (x = 21), ?_⟩
    unfold oneS
    rw [if_neg (by omega), if_pos hx']
  obtain ⟨b, e1⟩ := e1
  refine ⟨topE s', by rw [h1, e1], ?_⟩
  rw [e1] at h2
  have h3 := hI'.begin b
  have h4 := tops_begin hst hI'.iso0 b
  have h5 := resS_pdi base (xs.drop (i + 1)) 0 _ _ [] _ _ h3 h4 rfl (by simp; omega)
  rw [← h2, List.getElem?_drop] at h5
  exact h5
end Go.Proofs.Ytmakdbkffeodlaa
