/-
  Slices that are read and appended. No program of anybody's in it.
-/
import Derived.Test.YtmakdbkffeodlaaRd
set_option linter.unusedVariables false
namespace Go.Proofs.Ytmakdbkffeodlaa.Sl
open Go Go.RowKit
/-- It reads as xs; nil is nil. -/
structure Rn (W : World) (L : List Asn) (u : Value) (xs : List Int) : Prop where
  rd : Rd W L u xs
  nil : ∀ n c, u = .slice none n c → n = 0 ∧ c = 0
theorem Rn.app {W : World} {L : List Asn} {u : Value} {xs : List Int} (h : Rn W L u xs) (M : List Asn) : Rn W (M ++ L) u xs := ⟨h.rd.app M, h.nil⟩
theorem Rn.row {W w : World} {L : List Asn} {v : Value} {xs : List Int} {e : TypeId} {n : Nat} (H : Sat W w L) (i : Nat) (hi : L[i]? = some (row v e 1 n (ints xs))) : Rn W L v xs := by
  refine ⟨Rd.row H i hi, ?_⟩
  intro n c h
  rcases H.rowShape i hi with ⟨h1, _, _⟩ | ⟨g, cap, h1, _⟩
  · rw [h1] at h; cases h; exact ⟨rfl, rfl⟩
  · rw [h1] at h; cases h
theorem Rn.src {W w : World} {L : List Asn} {u : Value} {xs : List Int} (h : Rn W L u xs) (H : Sat W w L) : (u = .slice none 0 0 ∧ xs.length = 0) ∨ ∃ ad c, u = .slice (some ad) xs.length c ∧ ∀ j v, (ints xs)[j]? = some v → w.cell? (ad.add j) = some v := by
  obtain ⟨⟨p, c, rfl, hc, hp⟩, hz⟩ := h
  cases p with
  | none => obtain ⟨h1, h2⟩ := hz _ _ rfl; exact .inl ⟨by rw [h1, h2], h1⟩
  | some ad =>
    refine .inr ⟨ad, c, rfl, fun j v hv => ?_⟩
    have hj : j < xs.length := by have := (List.getElem?_eq_some_iff.1 hv).1; simpa [ints_length] using this
    obtain ⟨g, k, e, hg⟩ := hp (by omega)
    cases e
    have e := ints_get (List.getElem?_eq_getElem hj)
    rw [hv] at e
    cases e
    rw [add_lit]
    exact hg j _ w (List.getElem?_eq_getElem hj) H
section
variable {P : Program} {o : Oper} {a : Act} {W w : World} {L M : List Asn} {K : Act → World → Prop}
/-- 'append(s, xs...)' of a slice that is read. -/
theorem e_appR {v : Value} {n : Nat} {bytes : Nat} {e t : TypeId} {z : Value} {ys xs : List Int} (H : Sat W w L) (i : Nat) (s x : Operand)
    (ho : o.op = .call { callee := .builtin .append, args := #[s, x], argTypes := #[t, t] }) (hs' : evl a s = some v) (hi : L[i]? = some (row v e 1 n (ints ys))) (ht : sliceElem P t = some e) (hinf : (P.info? e).map (fun i => (i.zero, i.size, i.bytes)) = some (some z, 1, bytes))
    (hzs : z.cells.size = 1) {src : Value} (hx' : evl a x = some src) (hr : Rn W M src xs) (hM : Sat W w M) (h63 : n + xs.length ≤ maxLen) (hbytes : (n + xs.length) * bytes ≤ 140737488355328)
    (h : ∀ v' w', Sat W w' (L.set i (row v' e 1 (n + xs.length) (ints (ys ++ xs)))) → K (a.put o.dst v') w') : Ef P a o w K :=
  e_append H i s x ho hs' hi ht hinf hzs (by decide) hx' (by simp [ints_length] : (ints xs).length = xs.length * 1) (hr.src hM) (by simp [ints, Value.oneCell']) h63 hbytes (fun v' w' H => h v' w' (by rw [ints_append] at H; exact H))
/-- '[]int{}'. -/
theorem e_litI0 (H : Sat W w L) (t : TypeId) (ho : o.op = .buildSlice t 0 #[]) {e bytes : Nat} {z : Value} (he : sliceElem P t = some e) (hinf : (P.info? e).map (fun i => (i.zero, i.size, i.bytes)) = some (some z, 1, bytes))
    (h : ∀ g w', Sat W w' (row (.slice (some ⟨g, 0, none⟩) 0 0) e 1 0 (ints []) :: L) → K (a.put o.dst (.slice (some ⟨g, 0, none⟩) 0 0)) w') : Ef P a o w K := e_lit0 H t ho he hinf h
/-- '[]int{x}'. -/
theorem e_litI1 (H : Sat W w L) (t : TypeId) (x : Operand) (ho : o.op = .buildSlice t 1 #[(0, x)]) {n : Int} (hx' : evl a x = some (.int .i64 n)) {e bytes : Nat} {z : Value} (he : sliceElem P t = some e) (hinf : (P.info? e).map (fun i => (i.zero, i.size, i.bytes)) = some (some z, 1, bytes))
    (h : ∀ g w', Sat W w' (row (.slice (some ⟨g, 0, none⟩) 1 1) e 1 1 (ints [n]) :: L) → K (a.put o.dst (.slice (some ⟨g, 0, none⟩) 1 1)) w') : Ef P a o w K := e_lit1 H t x ho hx' he hinf rfl (by decide) (by decide) h
end
/-- A slice of a slice that is read. -/
theorem Rd.sub {W : World} {L : List Asn} {p : Option Addr} {c : Nat} {xs : List Int} (h : Rd W L (.slice p xs.length c) xs) (i j : Nat) (hij : i ≤ j) (hj : j ≤ xs.length) : Rd W L (.slice (if c = i then p else p.map (·.add (i * 1))) (j - i) (c - i)) ((xs.take j).drop i) := by
  obtain ⟨p', c', e, hc, hp⟩ := h
  simp only [Value.slice.injEq, true_and] at e
  obtain ⟨rfl, rfl⟩ := e
  have hl : ((xs.take j).drop i).length = j - i := by simp; omega
  refine ⟨_, _, by rw [hl], by omega, fun h0 => ?_⟩
  obtain ⟨g, k, rfl, hg⟩ := hp (by omega)
  rw [if_neg (by omega)]
  refine ⟨g, k + i, by simp [add_lit], fun r x w hx H => ?_⟩
  rw [Nat.add_assoc]
  refine hg (i + r) x w ?_ H
  rw [List.getElem?_drop, List.getElem?_take] at hx
  split at hx
  · exact hx
  · cases hx
theorem Rn.sub {W : World} {L : List Asn} {p : Option Addr} {c : Nat} {xs : List Int} (h : Rn W L (.slice p xs.length c) xs) (i j : Nat) (hij : i ≤ j) (hj : j ≤ xs.length) : Rn W L (.slice (if c = i then p else p.map (·.add (i * 1))) (j - i) (c - i)) ((xs.take j).drop i) := by
  refine ⟨h.rd.sub i j hij hj, fun n c' hs => ?_⟩
  obtain ⟨p', c'', e, hc, hp⟩ := h.rd
  simp only [Value.slice.injEq, true_and] at e
  obtain ⟨rfl, rfl⟩ := e
  cases p with
  | none =>
    obtain ⟨h1, h2⟩ := h.nil _ _ rfl
    simp only [Value.slice.injEq] at hs
    omega
  | some ad =>
    simp only [Value.slice.injEq] at hs
    split at hs <;> simp at hs
section
variable {P : Program} {o : Oper} {a : Act} {S : World → Prop}
theorem wt_id {ops : Array Oper} {Q : Exit → Act → World → Prop} {t : Ord} {w : World} (h : wpT P ops Q S t a w) : wpT P ops Q S t a w := h
/-- 's[m:]', its value under a name. -/
theorem y_sliceQ {q : Value} (m : Nat) (t : TypeId) (x y : Operand) (ho : o.op = .slice t x (some y) none none) {p : Option Addr} {n c : Nat} (hx' : evl a x = some (.slice p n c)) {k : IntKind} {j : Int} (hy' : evl a y = some (.int k j)) {e : Nat} (ht : sliceElem P t = some e) (hs : szOf P e = some 1)
    (hj : j = (m : Int)) (hm : m ≤ n) (hq : Value.slice (if c = m then p else p.map (·.add (m * 1))) (n - m) (c - m) = q) : Yf P S a o q := by
  subst hj hq
  have h := y_sliceFrom (S := S) t x y ho hx' hy' ht hs (by omega) (by omega)
  simpa using h
/-- 's[:m]'. -/
theorem y_sliceTQ (m : Nat) (t : TypeId) (x y : Operand) (ho : o.op = .slice t x none (some y) none) {p : Option Addr} {n c : Nat} (hx' : evl a x = some (.slice p n c)) {k : IntKind} {j : Int} (hy' : evl a y = some (.int k j)) {e size : Nat} (ht : sliceElem P t = some e) (hs : szOf P e = some size)
    (hj : j = (m : Int)) (hm : m ≤ c) : Yf P S a o (.slice p m c) := by
  subst hj
  have h := y_sliceTo (S := S) t x y ho hx' hy' ht hs (by omega) (by omega)
  simpa using h
end
/-- The beginning of a slice that is read. -/
theorem Rn.head {W : World} {L : List Asn} {p : Option Addr} {n c : Nat} {xs : List Int} (h : Rn W L (.slice p n c) xs) (j : Nat) (hj : j ≤ xs.length) : Rn W L (.slice p j c) (xs.take j) := by
  obtain ⟨⟨p', c', e, hc, hp⟩, hz⟩ := h
  simp only [Value.slice.injEq] at e
  obtain ⟨rfl, rfl, rfl⟩ := e
  have hl : (xs.take j).length = j := by simp; omega
  refine ⟨⟨_, _, by rw [hl], by omega, fun h0 => ?_⟩, ?_⟩
  · obtain ⟨g, k, rfl, hg⟩ := hp (by omega)
    refine ⟨g, k, rfl, fun r x w hx H => ?_⟩
    refine hg r x w ?_ H
    rw [List.getElem?_take] at hx
    split at hx
    · exact hx
    · cases hx
  · intro n c' hs
    simp only [Value.slice.injEq] at hs
    obtain ⟨rfl, rfl, rfl⟩ := hs
    have := hz _ _ rfl
    omega
/-- What stands behind a place of a slice that is read. -/
theorem Rn.tail {W : World} {L : List Asn} {p : Option Addr} {n c : Nat} {xs : List Int} (h : Rn W L (.slice p n c) xs) (i : Nat) (hi : i ≤ n) : Rn W L (.slice (if c = i then p else p.map (·.add (i * 1))) (n - i) (c - i)) (xs.drop i) := by
  have h2 := h
  obtain ⟨⟨p', c', e, hc, hp⟩, hz⟩ := h2
  simp only [Value.slice.injEq] at e
  obtain ⟨rfl, rfl, rfl⟩ := e
  have := h.sub i xs.length hi (Nat.le_refl _)
  rwa [List.take_length] at this
end Go.Proofs.Ytmakdbkffeodlaa.Sl
