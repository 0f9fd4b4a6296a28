/-
  The walk's steps over a list of assertions: loads, stores, new variables, slice literals, makes, appends. No program of anybody's in it.
-/
import Derived.Test.YtmakdbkffeodlaaSl
set_option linter.unusedVariables false
set_option linter.unusedSimpArgs false
namespace Go.Proofs.Ytmakdbkffeodlaa.Sl
open Go Go.RowKit
section
variable {P : Program} {ops : Array Oper} {Q : Exit → Act → World → Prop} {rest : List Oper} {o : Oper} {a : Act} {W w : World} {L : List Asn}

/-- An operation that runs to a value. -/
theorem wl_run (hgd : o.guard = none) {v : Value} {w' : World} (hr : (execOp a.eval o).run P w = .ok (.value v) w') (h : wpList P ops Q rest (a.put o.dst v) w') : wpList P ops Q (o :: rest) a w :=
  wpList_plain hgd fun K hK => by unfold Oper.wp; rw [hr]; exact hK _ _ h
theorem wl_skip (hgd : o.guard = none) {w' : World} (hr : (execOp a.eval o).run P w = .ok .skip w') (h : wpList P ops Q rest (a.put o.dst undef) w') : wpList P ops Q (o :: rest) a w :=
  wpList_plain hgd fun K hK => by unfold Oper.wp; rw [hr]; exact hK _ _ h

theorem run_load1 (ty : TypeId) (x : Operand) (ho : o.op = .load ty x) {b k : Nat} (hx : a.eval x = .pointer (some ⟨b, k, none⟩)) (hagg : (isAgg ty).run P w = .ok false w) {v : Value} (hc : w.cell? ⟨b, k, none⟩ = some v) :
    (execOp a.eval o).run P w = .ok (.value v) w := by
  unfold execOp
  simp only [ho, hx, Instr.loadAt, Instr.sureAddr, Sem.run_bind, Sem.run_pure, Result.andThen_ok, loadVar, hagg, Bool.false_eq_true, if_false, run_load, hc]
theorem add_lit (b k j : Nat) : (⟨b, k, none⟩ : Addr).add j = ⟨b, k + j, none⟩ := by unfold Addr.add; split <;> simp_all
theorem run_loadN (ty : TypeId) (x : Operand) (ho : o.op = .load ty x) {b k n : Nat} (hx : a.eval x = .pointer (some ⟨b, k, none⟩)) (hagg : (isAgg ty).run P w = .ok true w) (hn : (sizeOf ty).run P w = .ok n w)
    {cs : List Value} (hl : cs.length = n) (hc : ∀ j v, cs[j]? = some v → w.cell? ⟨b, k + j, none⟩ = some v) :
    (execOp a.eval o).run P w = .ok (.value (.agg cs.toArray)) w := by
  have h := run_loadCells_list (P := P) w ⟨b, k, none⟩ cs (fun j v hv => by rw [add_lit]; exact hc j v hv)
  rw [hl] at h
  unfold execOp
  simp only [ho, hx, Instr.loadAt, Instr.sureAddr, Sem.run_bind, Sem.run_pure, Result.andThen_ok, loadVar, hagg, if_true, hn, h]

/-- A load of one cell. -/
theorem wl_load1 (H : Sat W w L) (i : Nat) (hgd : o.guard = none) (ty : TypeId) (x : Operand) (ho : o.op = .load ty x) {b k : Nat} (hx : a.eval x = .pointer (some ⟨b, k, none⟩))
    {cs : List Value} {t : TypeId} (hi : L[i]? = some (blk b cs t)) (hagg : (isAgg ty).run P w = .ok false w) {v : Value} (hv : cs[k]? = some v)
    (h : wpList P ops Q rest (a.put o.dst v) w) : wpList P ops Q (o :: rest) a w :=
  wl_run hgd (run_load1 ty x ho hx hagg (H.cell i hi k hv)) h
/-- A load of an array or a struct. -/
theorem wl_loadN (H : Sat W w L) (i : Nat) (hgd : o.guard = none) (ty : TypeId) (x : Operand) (ho : o.op = .load ty x) {b k : Nat} (hx : a.eval x = .pointer (some ⟨b, k, none⟩))
    {cs : List Value} {t : TypeId} (hi : L[i]? = some (blk b cs t)) (hagg : (isAgg ty).run P w = .ok true w) {n : Nat} (hn : (sizeOf ty).run P w = .ok n w) (hk : k + n ≤ cs.length)
    (h : wpList P ops Q rest (a.put o.dst (.agg ((cs.drop k).take n).toArray)) w) : wpList P ops Q (o :: rest) a w :=
  wl_run hgd (run_loadN ty x ho hx hagg hn (by simp; omega) (fun j v hv => H.cell i hi (k + j) (by
    rw [List.getElem?_take] at hv; split at hv
    · rwa [List.getElem?_drop] at hv
    · cases hv))) h

theorem run_store1 (ty : TypeId) (x y : Operand) (ho : o.op = .store ty x y) {b k : Nat} (hx : a.eval x = .pointer (some ⟨b, k, none⟩)) {v u : Value} (hy : a.eval y = v) (h1 : v.oneCell' = true) (hn : (sizeOf ty).run P w = .ok 1 w)
    (hc : w.cell? ⟨b, k, none⟩ = some u) (hf : w.frozen? ⟨b, k, none⟩ = false) :
    (execOp a.eval o).run P w = .ok .skip (w.setCell ⟨b, k, none⟩ v) := by
  have hcs : v.cells = #[v] := by cases v <;> first | rfl | (simp [Value.oneCell'] at h1)
  have hst : (store ((⟨b, k, none⟩ : Addr).add 0) v).run P w = .ok () (w.setCell ⟨b, k, none⟩ v) := by
    rw [show (⟨b, k, none⟩ : Addr).add 0 = ⟨b, k, none⟩ from rfl, run_store P w _ v _ h1, hc]; simp [hf]
  unfold execOp
  simp [ho, hx, hy, Instr.storeAt, Instr.sureAddr, storeVar, hcs, hn, storeCells, hst]
/-- A store of one cell. -/
theorem wl_store1 (H : Sat W w L) (i : Nat) (hgd : o.guard = none) (ty : TypeId) (x y : Operand) (ho : o.op = .store ty x y) {b k : Nat} (hx : a.eval x = .pointer (some ⟨b, k, none⟩)) {v : Value} (hy : a.eval y = v)
    {cs : List Value} {t : TypeId} (hi : L[i]? = some (blk b cs t)) (h1 : v.oneCell' = true) (hn : (sizeOf ty).run P w = .ok 1 w) (hk : k < cs.length)
    (h : ∀ w', Sat W w' (L.set i (blk b (cs.set k v) t)) → wpList P ops Q rest (a.put o.dst undef) w') : wpList P ops Q (o :: rest) a w :=
  wl_skip hgd (run_store1 ty x y ho hx hy h1 hn (H.cell i hi k (List.getElem?_eq_getElem hk)) (H.free i hi k)) (h _ (H.setAt i hi k v))

theorem run_storeN (ty : TypeId) (x y : Operand) (ho : o.op = .store ty x y) {b k n : Nat} (hx : a.eval x = .pointer (some ⟨b, k, none⟩)) {vs : Array Value} (hy : a.eval y = .agg vs) (h1 : ∀ v ∈ vs.toList, v.oneCell' = true) (hn : (sizeOf ty).run P w = .ok n w) (hvn : vs.size = n)
    {cs : List Value} {t : TypeId} (hg : w.heap[b]? = some (.cells cs.toArray t (0, 0))) (hk : k + n ≤ cs.length) :
    (execOp a.eval o).run P w = .ok .skip (w.setRow b (cs.take k ++ vs.toList ++ cs.drop (k + n)).toArray) := by
  have hst := run_storeCells_at P b k t vs.toList 0 cs.toArray w hg (by simp; omega) h1
  simp only [Nat.add_zero, List.toList_toArray] at hst
  have hln : vs.toList.length = n := by simpa using hvn
  rw [hln] at hst
  unfold execOp
  simp [ho, hx, hy, Instr.storeAt, Instr.sureAddr, storeVar, Value.cells, hvn, hn, hst]
/-- A store of an array or a struct. -/
theorem wl_storeN (H : Sat W w L) (i : Nat) (hgd : o.guard = none) (ty : TypeId) (x y : Operand) (ho : o.op = .store ty x y) {b k : Nat} (hx : a.eval x = .pointer (some ⟨b, k, none⟩)) {vs : Array Value} (hy : a.eval y = .agg vs)
    {cs : List Value} {t : TypeId} (hi : L[i]? = some (blk b cs t)) {n : Nat} (hn : (sizeOf ty).run P w = .ok n w) (hvn : vs.size = n) (h1 : ∀ v ∈ vs.toList, v.oneCell' = true) (hk : k + n ≤ cs.length)
    (h : ∀ w', Sat W w' (L.set i (blk b (cs.take k ++ vs.toList ++ cs.drop (k + n)) t)) → wpList P ops Q rest (a.put o.dst undef) w') : wpList P ops Q (o :: rest) a w := by
  have hm := H.mem_get i hi
  have hlt : i < L.length := by
    rcases Nat.lt_or_ge i L.length with h | h
    · exact h
    · simp [List.getElem?_eq_none h] at hi
  exact wl_skip hgd (run_storeN ty x y ho hx hy h1 hn hvn hm.get hk) (h _ ((hm.setRow _).perm (perm_set i L _ hlt)))

/-- A new variable: its zero value. -/
theorem wl_alloc (H : Sat W w L) (hgd : o.guard = none) (ty : TypeId) (ho : o.op = .alloc ty) {z : Value} (hz : (zeroValue ty).run P w = .ok z w)
    (h : ∀ b w', Sat W w' (blk b z.cells.toList ty :: L) → wpList P ops Q rest (a.put o.dst (.pointer (some ⟨b, 0, none⟩))) w') : wpList P ops Q (o :: rest) a w := by
  have hA := H.alloc z.cells.toList ty
  rw [Array.toArray_toList] at hA
  refine wl_run hgd (v := .pointer (some ⟨w.heap.size, 0, none⟩)) (w' := w.alloc (.cells z.cells ty)) ?_ (h _ _ hA)
  unfold execOp
  simp only [ho, Instr.alloc, Sem.run_bind, hz, Result.andThen_ok, Sem.run_pure]
  rfl
/-- A new variable that holds a value. -/
theorem wl_box (H : Sat W w L) (hgd : o.guard = none) (ty : TypeId) (x : Operand) (ho : o.op = .box ty x) {v : Value} (hx : a.eval x = v)
    (h : ∀ b w', Sat W w' (blk b v.cells.toList ty :: L) → wpList P ops Q rest (a.put o.dst (.pointer (some ⟨b, 0, none⟩))) w') : wpList P ops Q (o :: rest) a w := by
  have hA := H.alloc v.cells.toList ty
  rw [Array.toArray_toList] at hA
  refine wl_run hgd (v := .pointer (some ⟨w.heap.size, 0, none⟩)) (w' := w.alloc (.cells v.cells ty)) ?_ (h _ _ hA)
  unfold execOp
  simp only [ho, hx, Instr.box]
  rfl

/-! ### Rows -/
theorem row_mk {W w : World} {L : List Asn} (H : Sat W w L) (cs : List Value) (e : TypeId) (size n : Nat) (hl : cs.length = n * size) (hm : n ≤ maxLen) :
    Sat W (w.alloc (.cells cs.toArray e)) (row (.slice (some ⟨w.heap.size, 0, none⟩) n n) e size n cs :: L) :=
  (H.alloc cs e).imp fun m hm' => ⟨hl, .inr ⟨w.heap.size, n, cs.toArray, rfl, hm', Nat.le_refl _, hm, by simpa using hl, by simp [← hl]⟩⟩
/-- An element's cell in a row. -/
theorem Sat.rowCell (H : Sat W w L) (i : Nat) {g n cap size : Nat} {e : TypeId} {xs : List Value} (hi : L[i]? = some (row (.slice (some ⟨g, 0, none⟩) n cap) e size n xs)) (j : Nat) {v : Value} (hv : xs[j]? = some v) :
    w.cell? ⟨g, j, none⟩ = some v := by
  have h := (row_owns (H.mem_get i hi)).cells (g := g) rfl j v hv
  rwa [add_lit, Nat.zero_add] at h
theorem Sat.rowFree (H : Sat W w L) (i : Nat) {g n cap size : Nat} {e : TypeId} {xs : List Value} (hi : L[i]? = some (row (.slice (some ⟨g, 0, none⟩) n cap) e size n xs)) (j : Nat) : w.frozen? ⟨g, j, none⟩ = false :=
  (row_owns (H.mem_get i hi)).frozenAt j
theorem Sat.rowLen (H : Sat W w L) (i : Nat) {v : Value} {n size : Nat} {e : TypeId} {xs : List Value} (hi : L[i]? = some (row v e size n xs)) : xs.length = n * size := (row_owns (H.mem_get i hi)).1
theorem Sat.rowShape (H : Sat W w L) (i : Nat) {v : Value} {n size : Nat} {e : TypeId} {xs : List Value} (hi : L[i]? = some (row v e size n xs)) :
    (v = .slice none 0 0 ∧ n = 0 ∧ xs = []) ∨ ∃ g cap, v = .slice (some ⟨g, 0, none⟩) n cap ∧ n ≤ cap ∧ cap ≤ maxLen := by
  have h := row_owns (H.mem_get i hi)
  rcases h.2 with ⟨h1, h2⟩ | ⟨g, cap, cur, h1, _, _, h3, h4, _⟩
  · exact .inl ⟨h1, h2, List.eq_nil_of_length_eq_zero (by rw [h.1, h2]; simp)⟩
  · exact .inr ⟨g, cap, h1, h3, h4⟩
theorem Sat.rowSet (H : Sat W w L) (i : Nat) {g n cap size : Nat} {e : TypeId} {xs : List Value} (hi : L[i]? = some (row (.slice (some ⟨g, 0, none⟩) n cap) e size n xs)) (j : Nat) (u : Value) :
    Sat W (w.setCell ⟨g, j, none⟩ u) (L.set i (row (.slice (some ⟨g, 0, none⟩) n cap) e size n (xs.set j u))) := by
  have hm := H.mem_get i hi
  have hs := (row_owns hm).stored j u
  have hlt : i < L.length := by
    rcases Nat.lt_or_ge i L.length with h | h
    · exact h
    · simp [List.getElem?_eq_none h] at hi
  exact (hm.grown hs.2 hs.1 (fun k h => .inl h)).perm (perm_set i L _ hlt)
theorem wl_rowLoad1 (H : Sat W w L) (i : Nat) (hgd : o.guard = none) (ty : TypeId) (x : Operand) (ho : o.op = .load ty x) {g j n cap size : Nat} {e : TypeId} {xs : List Value} (hx : a.eval x = .pointer (some ⟨g, j, none⟩))
    (hi : L[i]? = some (row (.slice (some ⟨g, 0, none⟩) n cap) e size n xs)) (hagg : (isAgg ty).run P w = .ok false w) {v : Value} (hv : xs[j]? = some v)
    (h : wpList P ops Q rest (a.put o.dst v) w) : wpList P ops Q (o :: rest) a w :=
  wl_run hgd (run_load1 ty x ho hx hagg (H.rowCell i hi j hv)) h
theorem wl_rowLoadN (H : Sat W w L) (i : Nat) (hgd : o.guard = none) (ty : TypeId) (x : Operand) (ho : o.op = .load ty x) {g j n cap size : Nat} {e : TypeId} {xs : List Value} (hx : a.eval x = .pointer (some ⟨g, j, none⟩))
    (hi : L[i]? = some (row (.slice (some ⟨g, 0, none⟩) n cap) e size n xs)) (hagg : (isAgg ty).run P w = .ok true w) {m : Nat} (hn : (sizeOf ty).run P w = .ok m w) {cs : List Value} (hl : cs.length = m) (hc : ∀ q v, cs[q]? = some v → xs[j + q]? = some v)
    (h : wpList P ops Q rest (a.put o.dst (.agg cs.toArray)) w) : wpList P ops Q (o :: rest) a w :=
  wl_run hgd (run_loadN ty x ho hx hagg hn hl (fun q v hv => H.rowCell i hi (j + q) (hc q v hv))) h
theorem wl_rowStore1 (H : Sat W w L) (i : Nat) (hgd : o.guard = none) (ty : TypeId) (x y : Operand) (ho : o.op = .store ty x y) {g j n cap size : Nat} {e : TypeId} {xs : List Value} (hx : a.eval x = .pointer (some ⟨g, j, none⟩)) {v : Value} (hy : a.eval y = v)
    (hi : L[i]? = some (row (.slice (some ⟨g, 0, none⟩) n cap) e size n xs)) (h1 : v.oneCell' = true) (hn : (sizeOf ty).run P w = .ok 1 w) (hj : j < xs.length)
    (h : ∀ w', Sat W w' (L.set i (row (.slice (some ⟨g, 0, none⟩) n cap) e size n (xs.set j v))) → wpList P ops Q rest (a.put o.dst undef) w') : wpList P ops Q (o :: rest) a w :=
  wl_skip hgd (run_store1 ty x y ho hx hy h1 hn (H.rowCell i hi j (List.getElem?_eq_getElem hj)) (H.rowFree i hi j)) (h _ (H.rowSet i hi j v))

/-- A slice literal. -/
theorem wl_buildSlice (H : Sat W w L) (hgd : o.guard = none) (t : TypeId) (n : Nat) (parts : Array (Nat × Operand)) (ho : o.op = .buildSlice t n parts) {e : TypeId} {size : Nat} {cs : List Value} (hm : n ≤ maxLen) (hl : cs.length = n * size)
    (hr : (execOp a.eval o).run P w = .ok (.value (.slice (some ⟨w.heap.size, 0, none⟩) n n)) (w.alloc (.cells cs.toArray e)))
    (h : ∀ g w', Sat W w' (row (.slice (some ⟨g, 0, none⟩) n n) e size n cs :: L) → wpList P ops Q rest (a.put o.dst (.slice (some ⟨g, 0, none⟩) n n)) w') : wpList P ops Q (o :: rest) a w :=
  wl_run hgd hr (h _ _ (row_mk H cs e size n hl hm))
/-- 'make([]T, n)'. -/
theorem wl_make (H : Sat W w L) (hgd : o.guard = none) (t : TypeId) (x y : Operand) (ho : o.op = .makeSlice t x y) {kl kc : IntKind} {n : Nat} (hx : a.eval x = .int kl (n : Int)) (hy : a.eval y = .int kc (n : Int))
    {e : TypeId} {i : TypeInfo} {z : Value} {size bytes : Nat} (ht : P.underlying t = some (.slice e)) (hi : (P.info? e).map (fun i => (i.zero, i.size, i.bytes)) = some (some z, size, bytes)) (hzs : z.cells.size = size)
    (hb : bytes * n ≤ 281474976710656) (hm : n ≤ maxLen)
    (h : ∀ g w', Sat W w' (row (.slice (some ⟨g, 0, none⟩) n n) e size n (madeCells z.cells (n * size)).toList :: L) → wpList P ops Q rest (a.put o.dst (.slice (some ⟨g, 0, none⟩) n n)) w') : wpList P ops Q (o :: rest) a w := by
  obtain ⟨i0, hi0, hz0, hz1, hz2⟩ := info_parts hi
  have hb' : (i0.bytes : Int) * (n : Int) ≤ 281474976710656 := by
    rw [hz2]
    have h : ((bytes * n : Nat) : Int) ≤ 281474976710656 := by omega
    rwa [Int.natCast_mul] at h
  have hm' : (n : Int) ≤ 9223372036854775807 := by
    have h := hm
    simp only [maxLen] at h
    omega
  have hr := run_make (P := P) w t e i0 z ht hi0 hz0 kl kc n n (by omega) (Int.le_refl _) hb' hm'
  simp only [Int.toNat_natCast] at hr
  rw [hz1] at hr
  have hA := row_mk H (madeCells z.cells (n * size)).toList e size n (by simp [size_madeCells]) hm
  rw [Array.toArray_toList] at hA
  refine wl_run hgd ?_ (h _ _ hA)
  unfold execOp
  simp only [ho, hx, hy, Sem.run_bind, hr, Result.andThen_ok, Sem.run_pure]

/-- The run of an append to a row of one's own. -/
theorem run_app {v : Value} {n size bytes : Nat} {e t : TypeId} {z : Value} {xs : List Value} (H : Sat W w (row v e size n xs :: L)) (s x : Operand)
    (ho : o.op = .call { callee := .builtin .append, args := #[s, x], argTypes := #[t, t] }) (ht : P.underlying t = some (.slice e)) (hinf : (P.info? e).map (fun i => (i.zero, i.size, i.bytes)) = some (some z, size, bytes))
    (hzs : z.cells.size = size) (hsz : 0 < size) (hs : a.eval s = v) {src : Value} (hx : a.eval x = src) {m : Nat} {news : List Value} (hl : news.length = m * size)
    (hsrc : (src = .slice none 0 0 ∧ m = 0) ∨ ∃ ad c, src = .slice (some ad) m c ∧ ∀ j u, news[j]? = some u → w.cell? (ad.add j) = some u) (h1 : ∀ u ∈ news, u.oneCell' = true)
    (h63 : n + m ≤ maxLen) (hbytes : (n + m) * bytes ≤ 140737488355328) :
    ∃ v' w', (execOp a.eval o).run P w = .ok (.value v') w' ∧ Sat W w' (row v' e size (n + m) (xs ++ news) :: L) := by
  obtain ⟨i0, hi0, hz0, hz1, hz2⟩ := info_parts hinf
  have hown := row_owns H
  rcases hsrc with ⟨rfl, rfl⟩ | ⟨ad, c, rfl, hc⟩
  · have hn : news = [] := List.eq_nil_of_length_eq_zero (by simpa using hl)
    subst hn
    refine ⟨v, w, ?_, by simpa using H⟩
    have hr := run_append_owned_none (P := P) w 0 t o.type e i0 size ht hi0 v n xs hown
    unfold execOp
    simp only [ho, resolve, invoke, builtin, Sem.run_bind, Sem.run_pure, Result.andThen_ok, List.map_toArray, List.map_cons, List.map_nil, hs, hx, hr]
  · obtain ⟨v', w', hr, h2, h3, h4⟩ := run_append_own (P := P) w 0 t o.type e i0 z size bytes ht hi0 hz0 hz1 hz2 hzs hsz v n xs hown ad m c news hl hc h1 h63 hbytes (Nat.zero_le _)
    have hr' := hr
    refine ⟨v', w', ?_, H.grown h3 h2 ?_⟩
    · unfold execOp
      simp only [ho, resolve, invoke, builtin, Sem.run_bind, Sem.run_pure, Result.andThen_ok, List.map_toArray, List.map_cons, List.map_nil, hs, hx, hr]
    · intro k hk
      -- the new row's block is the old one or a new one: the old row's law again, its base this world's size
      rcases Nat.lt_or_ge k w.heap.size with hlt | hge
      · refine .inl ?_
        rcases hown.2 with ⟨rfl, rfl⟩ | ⟨g, cap, cur, rfl, _, hg, hnc, hcm, hcs, htake⟩
        · -- from nil: every row of the law's is from the base on
          have hown0 := World.ownsRow_nil w w.heap.size e size
          obtain ⟨v2, w2, hr2, h22, h23, h24⟩ := run_append_own (P := P) w w.heap.size t o.type e i0 z size bytes ht hi0 hz0 hz1 hz2 hzs hsz _ 0 _ hown0 ad m c news hl hc h1 h63 hbytes (Nat.le_refl _)
          rw [hr2] at hr
          cases hr
          have := (h22.lt k hk).1
          omega
        · by_cases hroom : n + m ≤ cap
          · have hownf : w.ownsRow 0 e size (.slice (some ⟨g, 0, none⟩) n cap) n xs := hown
            obtain ⟨w2, hr2, h22, h23⟩ := run_append_fits (P := P) w 0 t o.type e i0 size ht hi0 hz1 g n cap xs hownf ad m c news hl hc h1 hroom
            rw [hr2] at hr
            cases hr
            exact hk
          · subst hz1
            have holds : ∀ j u, xs[j]? = some u → w.cell? ((⟨g, 0, none⟩ : Addr).add j) = some u := hown.cells (g := g) rfl
            have hr2 := run_append_grow (P := P) w t o.type e i0 z ht hi0 hz0 ⟨g, 0, none⟩ n cap xs hown.1 holds ad m c news hl hc (by omega) (by simp only [maxLen] at h63; omega) (growslice_fits (by omega) (by rw [hz2]; exact hbytes))
            rw [hr2] at hr
            cases hr
            simp [Value.ownBlock] at hk
            omega
      · exact .inr hge
/-- An append to a row of one's own. -/
theorem wl_append {v : Value} {n size bytes : Nat} {e t : TypeId} {z : Value} {xs : List Value} (H : Sat W w L) (i : Nat) (hgd : o.guard = none) (s x : Operand)
    (ho : o.op = .call { callee := .builtin .append, args := #[s, x], argTypes := #[t, t] }) (hs : a.eval s = v) (hi : L[i]? = some (row v e size n xs)) (ht : P.underlying t = some (.slice e)) (hinf : (P.info? e).map (fun i => (i.zero, i.size, i.bytes)) = some (some z, size, bytes))
    (hzs : z.cells.size = size) (hsz : 0 < size) {src : Value} (hx : a.eval x = src) {m : Nat} {news : List Value} (hl : news.length = m * size)
    (hsrc : (src = .slice none 0 0 ∧ m = 0) ∨ ∃ ad c, src = .slice (some ad) m c ∧ ∀ j u, news[j]? = some u → w.cell? (ad.add j) = some u) (h1 : ∀ u ∈ news, u.oneCell' = true)
    (h63 : n + m ≤ maxLen) (hbytes : (n + m) * bytes ≤ 140737488355328)
    (h : ∀ v' w', Sat W w' (L.set i (row v' e size (n + m) (xs ++ news))) → wpList P ops Q rest (a.put o.dst v') w') : wpList P ops Q (o :: rest) a w := by
  have hlt : i < L.length := by
    rcases Nat.lt_or_ge i L.length with h | h
    · exact h
    · simp [List.getElem?_eq_none h] at hi
  obtain ⟨v', w', hr, hS⟩ := run_app (H.mem_get i hi) s x ho ht hinf hzs hsz hs hx hl hsrc h1 h63 hbytes
  exact wl_run hgd hr (h v' w' (hS.perm (perm_set i L _ hlt)))
/-- A nil slice is a row. -/
theorem Sat.nilRow (H : Sat W w L) (e : TypeId) (size : Nat) : Sat W w (row (.slice none 0 0) e size 0 [] :: L) :=
  H.new rfl rfl rfl (fun _ => none) ⟨by simp, .inl ⟨rfl, rfl, rfl⟩⟩ (fun k o e => by cases e) fun k o h => ⟨h, rfl⟩
end
end Go.Proofs.Ytmakdbkffeodlaa.Sl
