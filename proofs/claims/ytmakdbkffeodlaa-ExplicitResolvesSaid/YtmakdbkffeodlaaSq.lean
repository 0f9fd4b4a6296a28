/-
  More of the walk's rules: returns, cuts of slices, min and max, structs held against each other, a region whose operations may come in several orders. No program of anybody's in it.
-/
import Derived.Test.YtmakdbkffeodlaaSp
import Derived.Laws.StructEq
set_option linter.unusedVariables false
set_option linter.unusedSimpArgs false
namespace Go.Proofs.Ytmakdbkffeodlaa.Sl
open Go Go.RowKit
section
variable {P : Program} {ops : Array Oper} {Q : Exit → Act → World → Prop} {rest : List Oper} {o : Oper} {a : Act} {W w : World} {L : List Asn} {S : World → Prop} {v : Value} {fn : Func}

/-! ### Returns -/
theorem noGoto_ret (h : Q .ret a w) : Exit.noGoto Q .ret a w := h
def RetPost (Post : Value → World → Prop) : Ending → World → Prop := fun e w' => ∃ v, e = .returned v ∧ Post v w'
theorem ret0 {R : Value → World → Prop} (hf : fn.results = #[]) (hd : a.defers = []) (h : R (.tuple #[]) w) : bodyPost P fn (fun e w' => ∃ v, e = .returned v ∧ R v w') .ret a w :=
  bodyPost_ret (results_none hf _ _ _) hd ⟨_, rfl, h⟩
theorem end0 {R : Value → World → Prop} (hf : fn.results = #[]) (hd : a.defers = []) (h : R (.tuple #[]) w) : bodyPost P fn (fun e w' => ∃ v, e = .returned v ∧ R v w') .normal a w :=
  bodyPost_end (results_none hf _ _ _) hd ⟨_, rfl, h⟩
theorem getD_of_evl {t : Nat} (h : evl a (.tmp t) = some v) : a.tmps.getD t undef = v := evl_spec h
theorem ret1 {R : Value → World → Prop} {t : Nat} (hf : fn.results = #[.tmp t]) (hv : evl a (.tmp t) = some v) (hd : a.defers = []) (h : R v w) : bodyPost P fn (fun e w' => ∃ v, e = .returned v ∧ R v w') .ret a w :=
  bodyPost_ret (results_tmp hf _ _ _) hd ⟨_, rfl, by rw [getD_of_evl hv]; exact h⟩
theorem ret2 {R : Value → World → Prop} {t u : Nat} {v' : Value} (hf : fn.results = #[.tmp t, .tmp u]) (hv : evl a (.tmp t) = some v) (hu : evl a (.tmp u) = some v') (hd : a.defers = []) (h : R (.tuple #[v, v']) w) : bodyPost P fn (fun e w' => ∃ v, e = .returned v ∧ R v w') .ret a w :=
  bodyPost_ret (results_tmp2 hf _ _ _) hd ⟨_, rfl, by rw [getD_of_evl hv, getD_of_evl hu]; exact h⟩
theorem results_tmp3 {t u s : Tmp} (h : fn.results = #[.tmp t, .tmp u, .tmp s]) (tmps : Array Value) (P : Program) (w : World) :
    (results fn tmps).run P w = .ok (.tuple #[tmps.getD t undef, tmps.getD u undef, tmps.getD s undef]) w := by
  simp [results, h]
theorem ret3 {R : Value → World → Prop} {t u s : Nat} {v' v'' : Value} (hf : fn.results = #[.tmp t, .tmp u, .tmp s]) (hv : evl a (.tmp t) = some v) (hu : evl a (.tmp u) = some v') (hs : evl a (.tmp s) = some v'') (hd : a.defers = []) (h : R (.tuple #[v, v', v'']) w) : bodyPost P fn (fun e w' => ∃ v, e = .returned v ∧ R v w') .ret a w :=
  bodyPost_ret (results_tmp3 hf _ _ _) hd ⟨_, rfl, by rw [getD_of_evl hv, getD_of_evl hu, getD_of_evl hs]; exact h⟩
theorem run_loadVar_blk {ty : TypeId} {b n : Nat} {cs : List Value} {t : TypeId} (H : Sat W w L) (i : Nat) (hi : L[i]? = some (blk b cs t)) (hagg : aggB P ty = some true) (hn : szOf P ty = some n) (hl : cs.length = n) : (loadVar ty ⟨b, 0, none⟩).run P w = .ok (.agg cs.toArray) w := by
  have h := run_loadCells_list (P := P) w ⟨b, 0, none⟩ cs (fun j v hv => by rw [add_lit, Nat.zero_add]; exact H.cell i hi j hv)
  rw [hl] at h
  unfold loadVar
  simp only [Sem.run_bind, run_agg hagg w, Result.andThen_ok, if_true, run_sz hn w, h, Sem.run_pure]
theorem run_loadVar_one {ty : TypeId} {b : Nat} {t : TypeId} (H : Sat W w L) (i : Nat) (hi : L[i]? = some (blk b [v] t)) (hagg : aggB P ty = some false) : (loadVar ty ⟨b, 0, none⟩).run P w = .ok v w := by
  unfold loadVar
  simp only [Sem.run_bind, run_agg hagg w, Result.andThen_ok, Bool.false_eq_true, if_false, run_load, H.cell i hi 0 rfl]
theorem retCellN {R : Value → World → Prop} {p ty : Nat} {b n t : Nat} {cs : List Value} (H : Sat W w L) (i : Nat) (hf : fn.results = #[.cell p ty]) (hp : evl a (.tmp p) = some (.pointer (some ⟨b, 0, none⟩))) (hi : L[i]? = some (blk b cs t)) (hagg : aggB P ty = some true) (hn : szOf P ty = some n)
    (hl : cs.length = n) (hd : a.defers = []) (h : R (.agg cs.toArray) w) : bodyPost P fn (fun e w' => ∃ v, e = .returned v ∧ R v w') .ret a w := by
  refine bodyPost_ret (v := .agg cs.toArray) ?_ hd ⟨_, rfl, h⟩
  have hp' : a.tmps.getD p undef = .pointer (some ⟨b, 0, none⟩) := getD_of_evl hp
  have hp2 : a.tmps[p]?.getD undef = .pointer (some ⟨b, 0, none⟩) := by simpa using hp'
  simp [results, hf, hp2, asAddr, run_loadVar_blk H i hi hagg hn hl]

/-! ### Cuts of slices -/
theorem y_sliceTo (t : TypeId) (x y : Operand) (ho : o.op = .slice t x none (some y) none) {p : Option Addr} {n c : Nat} (hx' : evl a x = some (.slice p n c)) {k : IntKind} {j : Int} (hy' : evl a y = some (.int k j)) {e size : Nat} (ht : sliceElem P t = some e) (hs : szOf P e = some size)
    (h0 : 0 ≤ j) (h1 : j ≤ (c : Int)) : Yf P S a o (.slice p j.toNat c) := fun w _ => by
  have hx := evl_spec hx'; have hy := evl_spec hy'
  unfold execOp
  have e2 : p.map (fun q => q.add 0) = p := by cases p <;> rfl
  simp [ho, hx, hy, Instr.sliceAt, Instr.slice, Instr.sliceBounds, Instr.sliceBound, asIntOf, run_underlying (sliceElem_spec ht), run_sz hs, h0, h1]
  intro hc
  cases p <;> rfl
theorem y_sliceFrom (t : TypeId) (x y : Operand) (ho : o.op = .slice t x (some y) none none) {p : Option Addr} {n c : Nat} (hx' : evl a x = some (.slice p n c)) {k : IntKind} {j : Int} (hy' : evl a y = some (.int k j)) {e size : Nat} (ht : sliceElem P t = some e) (hs : szOf P e = some size)
    (h0 : 0 ≤ j) (h1 : j ≤ (n : Int)) : Yf P S a o (.slice (if c = j.toNat then p else p.map (·.add (j.toNat * size))) (n - j.toNat) (c - j.toNat)) := fun w _ => by
  have hx := evl_spec hx'; have hy := evl_spec hy'
  unfold execOp
  simp [ho, hx, hy, Instr.sliceAt, Instr.slice, Instr.sliceBounds, Instr.sliceBound, asIntOf, run_underlying (sliceElem_spec ht), run_sz hs, h0, h1]
theorem y_slice2 (t : TypeId) (x y z : Operand) (ho : o.op = .slice t x (some y) (some z) none) {p : Option Addr} {n c : Nat} (hx' : evl a x = some (.slice p n c)) {k k2 : IntKind} {i j : Int} (hy' : evl a y = some (.int k i)) (hz' : evl a z = some (.int k2 j)) {e size : Nat} (ht : sliceElem P t = some e) (hs : szOf P e = some size)
    (h0 : 0 ≤ i) (h1 : i ≤ j) (h2 : j ≤ (c : Int)) : Yf P S a o (.slice (if c = i.toNat then p else p.map (·.add (i.toNat * size))) (j.toNat - i.toNat) (c - i.toNat)) := fun w _ => by
  have hx := evl_spec hx'; have hy := evl_spec hy'; have hz := evl_spec hz'
  have h3 : 0 ≤ j := by omega
  have h4 : i ≤ max j 0 := by omega
  have h5 : i ≤ (j.toNat : Int) := by omega
  unfold execOp
  simp [ho, hx, hy, hz, Instr.sliceAt, Instr.slice, Instr.sliceBounds, Instr.sliceBound, asIntOf, run_underlying (sliceElem_spec ht), run_sz hs, h0, h2, h3, h4, h5]
theorem y_max2 (x y : Operand) (ts : Array TypeId) (ho : o.op = .call { callee := .builtin .max, args := #[x, y], argTypes := ts }) {k k' : IntKind} {m n r : Int} (hx' : evl a x = some (.int k m)) (hy' : evl a y = some (.int k' n)) (hr : (if n > m then n else m) = r) : Yf P S a o (.int k r) := fun w _ => by
  have hx := evl_spec hx'; have hy := evl_spec hy'
  subst hr
  unfold execOp
  simp only [ho, resolve, invoke, builtin, Sem.run_bind, Sem.run_pure, Result.andThen_ok, List.map_toArray, List.map_cons, List.map_nil, hx, hy, run_max_int2]
theorem y_min2 (x y : Operand) (ts : Array TypeId) (ho : o.op = .call { callee := .builtin .min, args := #[x, y], argTypes := ts }) {k k' : IntKind} {m n r : Int} (hx' : evl a x = some (.int k m)) (hy' : evl a y = some (.int k' n)) (hr : (if n < m then n else m) = r) : Yf P S a o (.int k r) := fun w _ => by
  have hx := evl_spec hx'; have hy := evl_spec hy'
  subst hr
  unfold execOp
  simp only [ho, resolve, invoke, builtin, Sem.run_bind, Sem.run_pure, Result.andThen_ok, List.map_toArray, List.map_cons, List.map_nil, hx, hy, run_min_int2]
/-- Two structs held against each other, by whatever their run says. -/
theorem y_neS (t : TypeId) (x y : Operand) (t2 : TypeId) (ho : o.op = .binOp .neq t x y t2) {xs ys : Array Value} (hx' : evl a x = some (.agg xs)) (hy' : evl a y = some (.agg ys)) {r : Bool}
    (hg : ∀ w, (eqGuard .neq t x y (.agg xs) (.agg ys)).run P w = .ok () w) (hr : ∀ w, (Op.equal t (.agg xs) (.agg ys)).run P w = .ok r w) : Yf P S a o (.bool (!r)) := fun w _ => by
  have hx := evl_spec hx'; have hy := evl_spec hy'
  unfold execOp
  simp only [ho, hx, hy, Sem.run_bind, hg, Result.andThen_ok, binOp, hr, Sem.run_pure]
theorem y_eqS (t : TypeId) (x y : Operand) (t2 : TypeId) (ho : o.op = .binOp .eql t x y t2) {xs ys : Array Value} (hx' : evl a x = some (.agg xs)) (hy' : evl a y = some (.agg ys)) {r : Bool}
    (hg : ∀ w, (eqGuard .eql t x y (.agg xs) (.agg ys)).run P w = .ok () w) (hr : ∀ w, (Op.equal t (.agg xs) (.agg ys)).run P w = .ok r w) : Yf P S a o (.bool r) := fun w _ => by
  have hx := evl_spec hx'; have hy := evl_spec hy'
  unfold execOp
  simp only [ho, hx, hy, Sem.run_bind, hg, Result.andThen_ok, binOp, hr, Sem.run_pure]

/-! ### A region of which several operations may come next -/
inductive Ord where
  | done
  | take (i : Nat) (t : Ord)
  | next (i : Nat) (t : Ord)
  | two (i : Nat) (ti : Ord) (j : Nat) (tj : Ord)
def okT (ops : Array Oper) : Array Bool → Ord → Bool
  | listed, .done => (Region.ready .any ops listed).isEmpty
  | listed, .take i t => Region.free .any ops listed i && (Region.ready .any ops listed).contains i && okT ops (listed.setIfInBounds i true) t
  | listed, .next i t => (Region.ready .any ops listed == [i]) && okT ops (listed.setIfInBounds i true) t
  | listed, .two i ti j tj => (Region.ready .any ops listed == [i, j]) && okT ops (listed.setIfInBounds i true) ti && okT ops (listed.setIfInBounds j true) tj
def Ord.len : Ord → Nat
  | .done => 0
  | .take _ t => t.len + 1
  | .next _ t => t.len + 1
  | .two _ ti _ tj => max ti.len tj.len + 1
def wpT (P : Program) (ops : Array Oper) (Q : Exit → Act → World → Prop) (S : World → Prop) : Ord → Act → World → Prop
  | .done, a, w => Q .normal a w
  | .take i t, a, w => ∃ o v, ops[i]? = some o ∧ YieldsIf P ops S o v a ∧ wpT P ops Q S t (a.put o.dst v) w
  | .next i t, a, w => wpOp P ops Q i (fun a' w' => S w' ∧ wpT P ops Q S t a' w') a w
  | .two i ti j tj, a, w => wpOp P ops Q i (fun a' w' => S w' ∧ wpT P ops Q S ti a' w') a w ∧ wpOp P ops Q j (fun a' w' => S w' ∧ wpT P ops Q S tj a' w') a w
theorem wpAnyH_of_T {S : World → Prop} (hs : Region.noSelect ops = true) (hQ : ∀ d v c a w, Q (.panic c) (a.put d v) w → Q (.panic c) a w) :
    ∀ (t : Ord) (fuel : Nat) (listed : Array Bool) (a : Act) (w : World), t.len ≤ fuel → okT ops listed t = true → S w → wpT P ops Q S t a w → wpAnyH P .any ops Q S fuel listed a w
  | .done, fuel, listed, a, w, _, hok, _, h => wpAnyH_done (by simpa [okT] using hok) h fuel
  | .take i t, 0, _, _, _, hl, _, _, _ => absurd hl (by simp [Ord.len])
  | .next i t, 0, _, _, _, hl, _, _, _ => absurd hl (by simp [Ord.len])
  | .two i ti j tj, 0, _, _, _, hl, _, _, _ => absurd hl (by simp [Ord.len])
  | .take i t, fuel + 1, listed, a, w, hl, hok, hS, h => by
    obtain ⟨o, v, ho, hy, hr⟩ := h
    simp only [okT, Bool.and_eq_true] at hok
    exact wpAnyH_take ho hs hok.1.1 hok.1.2 (fun c a w => hQ o.dst v c a w) hy hS (wpAnyH_of_T hs hQ t fuel _ _ _ (by simpa [Ord.len] using hl) hok.2 hS hr)
  | .next i t, fuel + 1, listed, a, w, hl, hok, hS, h => by
    simp only [okT, Bool.and_eq_true, beq_iff_eq] at hok
    refine wpAnyH_all hok.1 (by simp) fun j hj => ?_
    obtain rfl : j = i := by simpa using hj
    exact wpOp_mono (fun a' w' h' => ⟨h'.1, wpAnyH_of_T hs hQ t fuel _ _ _ (by simpa [Ord.len] using hl) hok.2 h'.1 h'.2⟩) h
  | .two i ti j tj, fuel + 1, listed, a, w, hl, hok, hS, h => by
    simp only [okT, Bool.and_eq_true, beq_iff_eq] at hok
    simp only [Ord.len] at hl
    refine wpAnyH_all hok.1.1 (by simp) fun k hk => ?_
    have hk' : k = i ∨ k = j := by simpa using hk
    rcases hk' with rfl | rfl
    · exact wpOp_mono (fun a' w' h' => ⟨h'.1, wpAnyH_of_T hs hQ ti fuel _ _ _ (by omega) hok.1.2 h'.1 h'.2⟩) h.1
    · exact wpOp_mono (fun a' w' h' => ⟨h'.1, wpAnyH_of_T hs hQ tj fuel _ _ _ (by omega) hok.2 h'.1 h'.2⟩) h.2
theorem wp_region_T {id : Nat} (S : World → Prop) (t : Ord) (hm : P.follows .mixedOrders = true) (hs : Region.noSelect ops = true) (hlen : t.len ≤ ops.size)
    (hok : okT ops (Array.replicate ops.size false) t = true) (hS : S w.drew) (h : wpT P ops (NoPanic Q) S t a w.drew) : (Code.region id ops true).wp P Q a w :=
  wp_region_noPanic (wp_region_held hm (wpAnyH_of_T hs (fun _ _ _ _ _ h => h) t _ _ _ _ hlen hok hS h))
theorem wp_region_M {id : Nat} (m : List Bool) (H : Sat W w L) (t : Ord) (hm : P.follows .mixedOrders = true) (hs : Region.noSelect ops = true) (hlen : t.len ≤ ops.size)
    (hok : okT ops (Array.replicate ops.size false) t = true) (h : wpT P ops (NoPanic Q) (fun w => Sat W w (mask m L)) t a w.drew) : (Code.region id ops true).wp P Q a w :=
  wp_region_T _ t hm hs hlen hok (H.drew.mask m) h
theorem wt_nil (h : Q .normal a w) : wpT P ops (NoPanic Q) S .done a w := h
def wT1 (P : Program) (ops : Array Oper) (Q : Exit → Act → World → Prop) (S : World → Prop) (t : Ord) (o : Oper) (a : Act) (w : World) : Prop := ∃ v, Yf P S a o v ∧ wpT P ops Q S t (a.put o.dst v) w
theorem wt_take {i : Nat} {t : Ord} (ho' : ops.toList[i]? = some o) (hw : Region.wanted o (yielded ops a.tmps) = true) (h : wT1 P ops Q S t o a w) : wpT P ops Q S (.take i t) a w :=
  let ⟨v, hy, h'⟩ := h
  ⟨o, v, by simpa using ho', .inl ⟨hw, hy⟩, h'⟩
theorem t1_y {t : Ord} (hy : Yf P S a o v) (h : wpT P ops Q S t (a.put o.dst v) w) : wT1 P ops Q S t o a w := ⟨v, hy, h⟩
theorem wt_yf {i : Nat} {t : Ord} (ho' : ops.toList[i]? = some o) (hw : Region.wanted o (yielded ops a.tmps) = true) (hy : Yf P S a o v) (h : wpT P ops Q S t (a.put o.dst v) w) : wpT P ops Q S (.take i t) a w :=
  ⟨o, v, by simpa using ho', .inl ⟨hw, hy⟩, h⟩
theorem wt_un {i : Nat} {t : Ord} (ho' : ops.toList[i]? = some o) (hw : Region.wanted o (yielded ops a.tmps) = false) (h : wpT P ops Q S t (a.put o.dst undef) w) : wpT P ops Q S (.take i t) a w :=
  ⟨o, undef, by simpa using ho', .inr ⟨hw, rfl⟩, h⟩
theorem wpOp_ef {K : Act → World → Prop} {i : Nat} (ho' : ops.toList[i]? = some o) (hw : Region.wanted o (yielded ops a.tmps) = true) (h : Ef P a o w K) : wpOp P ops Q i K a w := by
  have ho : ops[i]? = some o := by simpa using ho'
  unfold wpOp
  simp only [ho]
  rw [if_pos hw]
  refine .inl ?_
  unfold Oper.wp
  rcases h with ⟨v, w', hr, hk⟩ | ⟨w', hr, hk⟩ <;> (rw [hr]; exact hk)
theorem wpOp_cf {K : Act → World → Prop} {i : Nat} (ho' : ops.toList[i]? = some o) (hw : Region.wanted o (yielded ops a.tmps) = true) (h : Cf P a o w K) : wpOp P ops Q i K a w := by
  have ho : ops[i]? = some o := by simpa using ho'
  unfold wpOp
  simp only [ho]
  rw [if_pos hw]
  refine .inl ?_
  unfold Oper.wp
  obtain ⟨f, args, w1, R, hr, hc, hk⟩ := h
  rw [hr]
  refine Calls.mono hc ?_
  rintro e w' ⟨v, rfl, hR⟩
  exact hk v w' hR
theorem wt_ef {i : Nat} {t : Ord} (ho' : ops.toList[i]? = some o) (hw : Region.wanted o (yielded ops a.tmps) = true) (h : Ef P a o w (fun a' w' => S w' ∧ wpT P ops Q S t a' w')) : wpT P ops Q S (.next i t) a w := wpOp_ef ho' hw h
theorem wt_cf {i : Nat} {t : Ord} (ho' : ops.toList[i]? = some o) (hw : Region.wanted o (yielded ops a.tmps) = true) (h : Cf P a o w (fun a' w' => S w' ∧ wpT P ops Q S t a' w')) : wpT P ops Q S (.next i t) a w := wpOp_cf ho' hw h
/-- A yield that must come next. -/
theorem wt_ny {S' : World → Prop} {i : Nat} {t : Ord} (ho' : ops.toList[i]? = some o) (hw : Region.wanted o (yielded ops a.tmps) = true) (hy : Yf P S' a o v) (hS' : S' w) (hS : S w) (h : wpT P ops Q S t (a.put o.dst v) w) : wpT P ops Q S (.next i t) a w :=
  wpOp_ef ho' hw (.inl ⟨v, w, hy w hS', hS, h⟩)
theorem wt_nu {i : Nat} {t : Ord} (ho' : ops.toList[i]? = some o) (hw : Region.wanted o (yielded ops a.tmps) = false) (hS : S w) (h : wpT P ops Q S t (a.put o.dst undef) w) : wpT P ops Q S (.next i t) a w := by
  have ho : ops[i]? = some o := by simpa using ho'
  show wpOp P ops Q i _ a w
  unfold wpOp
  simp only [ho]
  rw [if_neg (by rw [hw]; simp)]
  exact ⟨hS, h⟩
theorem wt_two {i j : Nat} {ti tj : Ord} (h1 : wpT P ops Q S (.next i ti) a w) (h2 : wpT P ops Q S (.next j tj) a w) : wpT P ops Q S (.two i ti j tj) a w := ⟨h1, h2⟩

/-! ### Is an operation wanted? -/
def eqB : Bool → Bool → Bool
  | true, true => true
  | false, false => true
  | _, _ => false
theorem eqB_spec (x y : Bool) : eqB x y = (x == y) := by cases x <;> cases y <;> rfl
/-- What the guard's temporary says: told by looking, not by reckoning. -/
def wantF (ops : Array Oper) (a : Act) : Option (Nat × Bool) → Option Bool
  | none => some true
  | some (j, want) => match ops.toList[j]? with
    | some oj => match oj.dst with
      | some d => match a.tmps.toList[d]? with
        | some (.bool true) => (match want with | true => some true | false => some false)
        | some (.bool false) => (match want with | true => some false | false => some true)
        | some (.tuple _) => some false
        | _ => none
      | none => none
    | none => none
theorem wantF_spec {b : Bool} (h : wantF ops a o.guard = some b) : Region.wanted o (yielded ops a.tmps) = b := by
  unfold Region.wanted
  unfold wantF at h
  cases hg : o.guard with
  | none => rw [hg] at h; simpa using h
  | some g =>
    obtain ⟨j, want⟩ := g
    rw [hg] at h
    simp only at h ⊢
    unfold yielded
    rw [Array.getElem?_toList] at h
    split at h
    · rename_i oj hj
      split at h
      · rename_i d hd
        rw [Array.getElem?_toList] at h
        simp only [hj, Option.bind_some, hd]
        split at h
        · rename_i hv; rw [hv]; cases want <;> simp_all
        · rename_i hv; rw [hv]; cases want <;> simp_all
        · rename_i hv; rw [hv]; cases h; rfl
        · cases h
      · cases h
    · cases h
def wG (P : Program) (ops : Array Oper) (Q : Exit → Act → World → Prop) (rest : List Oper) (o : Oper) (a : Act) (w : World) : Bool → Prop
  | true => wL1 P ops Q rest o a w
  | false => wpList P ops Q rest (a.put o.dst undef) w
theorem wl_g {b : Bool} (hb : wantF ops a o.guard = some b) (h : wG P ops Q rest o a w b) : wpList P ops Q (o :: rest) a w := by
  cases b with
  | true => exact wl_take (wantF_spec hb) h
  | false => exact wl_un (wantF_spec hb) h
theorem wg_t (h : wL1 P ops Q rest o a w) : wG P ops Q rest o a w true := h
theorem wg_f (h : wpList P ops Q rest (a.put o.dst undef) w) : wG P ops Q rest o a w false := h
def wGt (P : Program) (ops : Array Oper) (Q : Exit → Act → World → Prop) (S : World → Prop) (t : Ord) (o : Oper) (a : Act) (w : World) : Bool → Prop
  | true => wT1 P ops Q S t o a w
  | false => wpT P ops Q S t (a.put o.dst undef) w
theorem wt_g {i : Nat} {t : Ord} {b : Bool} (ho' : ops.toList[i]? = some o) (hb : wantF ops a o.guard = some b) (h : wGt P ops Q S t o a w b) : wpT P ops Q S (.take i t) a w := by
  cases b with
  | true => exact wt_take ho' (wantF_spec hb) h
  | false => exact wt_un ho' (wantF_spec hb) h
theorem wgt_t {t : Ord} (h : wT1 P ops Q S t o a w) : wGt P ops Q S t o a w true := h
theorem wgt_f {t : Ord} (h : wpT P ops Q S t (a.put o.dst undef) w) : wGt P ops Q S t o a w false := h

/-! ### Which operation it is -/
theorem kd_move {d : Option Tmp} {x : Operand} {ty : TypeId} {ps' : String} {af : Array Edge} {g : Option (Nat × Bool)} (h : wL1 P ops Q rest ⟨d, (.move x), ty, ps', af, g⟩ a w) : wL1 P ops Q rest ⟨d, (.move x), ty, ps', af, g⟩ a w := h
theorem kt_move {t' : Ord} {d : Option Tmp} {x : Operand} {ty : TypeId} {ps' : String} {af : Array Edge} {g : Option (Nat × Bool)} (h : wT1 P ops Q S t' ⟨d, (.move x), ty, ps', af, g⟩ a w) : wT1 P ops Q S t' ⟨d, (.move x), ty, ps', af, g⟩ a w := h
theorem kd_assign {d : Option Tmp} {x : Operand} {ty : TypeId} {ps' : String} {af : Array Edge} {g : Option (Nat × Bool)} (h : wL1 P ops Q rest ⟨d, (.assign x), ty, ps', af, g⟩ a w) : wL1 P ops Q rest ⟨d, (.assign x), ty, ps', af, g⟩ a w := h
theorem kt_assign {t' : Ord} {d : Option Tmp} {x : Operand} {ty : TypeId} {ps' : String} {af : Array Edge} {g : Option (Nat × Bool)} (h : wT1 P ops Q S t' ⟨d, (.assign x), ty, ps', af, g⟩ a w) : wT1 P ops Q S t' ⟨d, (.assign x), ty, ps', af, g⟩ a w := h
theorem kd_nilCheck {d : Option Tmp} {x : Operand} {ty : TypeId} {ps' : String} {af : Array Edge} {g : Option (Nat × Bool)} (h : wL1 P ops Q rest ⟨d, (.nilCheck x), ty, ps', af, g⟩ a w) : wL1 P ops Q rest ⟨d, (.nilCheck x), ty, ps', af, g⟩ a w := h
theorem kt_nilCheck {t' : Ord} {d : Option Tmp} {x : Operand} {ty : TypeId} {ps' : String} {af : Array Edge} {g : Option (Nat × Bool)} (h : wT1 P ops Q S t' ⟨d, (.nilCheck x), ty, ps', af, g⟩ a w) : wT1 P ops Q S t' ⟨d, (.nilCheck x), ty, ps', af, g⟩ a w := h
theorem kd_fieldAddr {d : Option Tmp} {s : TypeId} {x : Operand} {f : Nat} {ty : TypeId} {ps' : String} {af : Array Edge} {g : Option (Nat × Bool)} (h : wL1 P ops Q rest ⟨d, (.fieldAddr s x f), ty, ps', af, g⟩ a w) : wL1 P ops Q rest ⟨d, (.fieldAddr s x f), ty, ps', af, g⟩ a w := h
theorem kt_fieldAddr {t' : Ord} {d : Option Tmp} {s : TypeId} {x : Operand} {f : Nat} {ty : TypeId} {ps' : String} {af : Array Edge} {g : Option (Nat × Bool)} (h : wT1 P ops Q S t' ⟨d, (.fieldAddr s x f), ty, ps', af, g⟩ a w) : wT1 P ops Q S t' ⟨d, (.fieldAddr s x f), ty, ps', af, g⟩ a w := h
theorem kd_field {d : Option Tmp} {s : TypeId} {x : Operand} {f : Nat} {ty : TypeId} {ps' : String} {af : Array Edge} {g : Option (Nat × Bool)} (h : wL1 P ops Q rest ⟨d, (.field s x f), ty, ps', af, g⟩ a w) : wL1 P ops Q rest ⟨d, (.field s x f), ty, ps', af, g⟩ a w := h
theorem kt_field {t' : Ord} {d : Option Tmp} {s : TypeId} {x : Operand} {f : Nat} {ty : TypeId} {ps' : String} {af : Array Edge} {g : Option (Nat × Bool)} (h : wT1 P ops Q S t' ⟨d, (.field s x f), ty, ps', af, g⟩ a w) : wT1 P ops Q S t' ⟨d, (.field s x f), ty, ps', af, g⟩ a w := h
theorem kd_extract {d : Option Tmp} {x : Operand} {i : Nat} {ty : TypeId} {ps' : String} {af : Array Edge} {g : Option (Nat × Bool)} (h : wL1 P ops Q rest ⟨d, (.extract x i), ty, ps', af, g⟩ a w) : wL1 P ops Q rest ⟨d, (.extract x i), ty, ps', af, g⟩ a w := h
theorem kt_extract {t' : Ord} {d : Option Tmp} {x : Operand} {i : Nat} {ty : TypeId} {ps' : String} {af : Array Edge} {g : Option (Nat × Bool)} (h : wT1 P ops Q S t' ⟨d, (.extract x i), ty, ps', af, g⟩ a w) : wT1 P ops Q S t' ⟨d, (.extract x i), ty, ps', af, g⟩ a w := h
theorem kd_pick {d : Option Tmp} {c x y : Operand} {ty : TypeId} {ps' : String} {af : Array Edge} {g : Option (Nat × Bool)} (h : wL1 P ops Q rest ⟨d, (.pick c x y), ty, ps', af, g⟩ a w) : wL1 P ops Q rest ⟨d, (.pick c x y), ty, ps', af, g⟩ a w := h
theorem kt_pick {t' : Ord} {d : Option Tmp} {c x y : Operand} {ty : TypeId} {ps' : String} {af : Array Edge} {g : Option (Nat × Bool)} (h : wT1 P ops Q S t' ⟨d, (.pick c x y), ty, ps', af, g⟩ a w) : wT1 P ops Q S t' ⟨d, (.pick c x y), ty, ps', af, g⟩ a w := h
theorem kd_binOp {d : Option Tmp} {b : BinOp} {t : TypeId} {x y : Operand} {u : TypeId} {ty : TypeId} {ps' : String} {af : Array Edge} {g : Option (Nat × Bool)} (h : wL1 P ops Q rest ⟨d, (.binOp b t x y u), ty, ps', af, g⟩ a w) : wL1 P ops Q rest ⟨d, (.binOp b t x y u), ty, ps', af, g⟩ a w := h
theorem kt_binOp {t' : Ord} {d : Option Tmp} {b : BinOp} {t : TypeId} {x y : Operand} {u : TypeId} {ty : TypeId} {ps' : String} {af : Array Edge} {g : Option (Nat × Bool)} (h : wT1 P ops Q S t' ⟨d, (.binOp b t x y u), ty, ps', af, g⟩ a w) : wT1 P ops Q S t' ⟨d, (.binOp b t x y u), ty, ps', af, g⟩ a w := h
theorem kd_unOp {d : Option Tmp} {b : UnOp} {t : TypeId} {x : Operand} {ty : TypeId} {ps' : String} {af : Array Edge} {g : Option (Nat × Bool)} (h : wL1 P ops Q rest ⟨d, (.unOp b t x), ty, ps', af, g⟩ a w) : wL1 P ops Q rest ⟨d, (.unOp b t x), ty, ps', af, g⟩ a w := h
theorem kt_unOp {t' : Ord} {d : Option Tmp} {b : UnOp} {t : TypeId} {x : Operand} {ty : TypeId} {ps' : String} {af : Array Edge} {g : Option (Nat × Bool)} (h : wT1 P ops Q S t' ⟨d, (.unOp b t x), ty, ps', af, g⟩ a w) : wT1 P ops Q S t' ⟨d, (.unOp b t x), ty, ps', af, g⟩ a w := h
theorem kd_load {d : Option Tmp} {t : TypeId} {x : Operand} {ty : TypeId} {ps' : String} {af : Array Edge} {g : Option (Nat × Bool)} (h : wL1 P ops Q rest ⟨d, (.load t x), ty, ps', af, g⟩ a w) : wL1 P ops Q rest ⟨d, (.load t x), ty, ps', af, g⟩ a w := h
theorem kt_load {t' : Ord} {d : Option Tmp} {t : TypeId} {x : Operand} {ty : TypeId} {ps' : String} {af : Array Edge} {g : Option (Nat × Bool)} (h : wT1 P ops Q S t' ⟨d, (.load t x), ty, ps', af, g⟩ a w) : wT1 P ops Q S t' ⟨d, (.load t x), ty, ps', af, g⟩ a w := h
theorem kd_store {d : Option Tmp} {t : TypeId} {x y : Operand} {ty : TypeId} {ps' : String} {af : Array Edge} {g : Option (Nat × Bool)} (h : wL1 P ops Q rest ⟨d, (.store t x y), ty, ps', af, g⟩ a w) : wL1 P ops Q rest ⟨d, (.store t x y), ty, ps', af, g⟩ a w := h
theorem kt_store {t' : Ord} {d : Option Tmp} {t : TypeId} {x y : Operand} {ty : TypeId} {ps' : String} {af : Array Edge} {g : Option (Nat × Bool)} (h : wT1 P ops Q S t' ⟨d, (.store t x y), ty, ps', af, g⟩ a w) : wT1 P ops Q S t' ⟨d, (.store t x y), ty, ps', af, g⟩ a w := h
theorem kd_call {d : Option Tmp} {c : Call} {ty : TypeId} {ps' : String} {af : Array Edge} {g : Option (Nat × Bool)} (h : wL1 P ops Q rest ⟨d, (.call c), ty, ps', af, g⟩ a w) : wL1 P ops Q rest ⟨d, (.call c), ty, ps', af, g⟩ a w := h
theorem kt_call {t' : Ord} {d : Option Tmp} {c : Call} {ty : TypeId} {ps' : String} {af : Array Edge} {g : Option (Nat × Bool)} (h : wT1 P ops Q S t' ⟨d, (.call c), ty, ps', af, g⟩ a w) : wT1 P ops Q S t' ⟨d, (.call c), ty, ps', af, g⟩ a w := h
theorem kd_indexAddr {d : Option Tmp} {t : TypeId} {x y : Operand} {ty : TypeId} {ps' : String} {af : Array Edge} {g : Option (Nat × Bool)} (h : wL1 P ops Q rest ⟨d, (.indexAddr t x y), ty, ps', af, g⟩ a w) : wL1 P ops Q rest ⟨d, (.indexAddr t x y), ty, ps', af, g⟩ a w := h
theorem kt_indexAddr {t' : Ord} {d : Option Tmp} {t : TypeId} {x y : Operand} {ty : TypeId} {ps' : String} {af : Array Edge} {g : Option (Nat × Bool)} (h : wT1 P ops Q S t' ⟨d, (.indexAddr t x y), ty, ps', af, g⟩ a w) : wT1 P ops Q S t' ⟨d, (.indexAddr t x y), ty, ps', af, g⟩ a w := h
theorem kd_index {d : Option Tmp} {t : TypeId} {x y : Operand} {ty : TypeId} {ps' : String} {af : Array Edge} {g : Option (Nat × Bool)} (h : wL1 P ops Q rest ⟨d, (.index t x y), ty, ps', af, g⟩ a w) : wL1 P ops Q rest ⟨d, (.index t x y), ty, ps', af, g⟩ a w := h
theorem kt_index {t' : Ord} {d : Option Tmp} {t : TypeId} {x y : Operand} {ty : TypeId} {ps' : String} {af : Array Edge} {g : Option (Nat × Bool)} (h : wT1 P ops Q S t' ⟨d, (.index t x y), ty, ps', af, g⟩ a w) : wT1 P ops Q S t' ⟨d, (.index t x y), ty, ps', af, g⟩ a w := h
theorem kd_slice {d : Option Tmp} {t : TypeId} {x : Operand} {lo hi mx : Option Operand} {ty : TypeId} {ps' : String} {af : Array Edge} {g : Option (Nat × Bool)} (h : wL1 P ops Q rest ⟨d, (.slice t x lo hi mx), ty, ps', af, g⟩ a w) : wL1 P ops Q rest ⟨d, (.slice t x lo hi mx), ty, ps', af, g⟩ a w := h
theorem kt_slice {t' : Ord} {d : Option Tmp} {t : TypeId} {x : Operand} {lo hi mx : Option Operand} {ty : TypeId} {ps' : String} {af : Array Edge} {g : Option (Nat × Bool)} (h : wT1 P ops Q S t' ⟨d, (.slice t x lo hi mx), ty, ps', af, g⟩ a w) : wT1 P ops Q S t' ⟨d, (.slice t x lo hi mx), ty, ps', af, g⟩ a w := h
theorem kd_alloc {d : Option Tmp} {t : TypeId} {ty : TypeId} {ps' : String} {af : Array Edge} {g : Option (Nat × Bool)} (h : wL1 P ops Q rest ⟨d, (.alloc t), ty, ps', af, g⟩ a w) : wL1 P ops Q rest ⟨d, (.alloc t), ty, ps', af, g⟩ a w := h
theorem kt_alloc {t' : Ord} {d : Option Tmp} {t : TypeId} {ty : TypeId} {ps' : String} {af : Array Edge} {g : Option (Nat × Bool)} (h : wT1 P ops Q S t' ⟨d, (.alloc t), ty, ps', af, g⟩ a w) : wT1 P ops Q S t' ⟨d, (.alloc t), ty, ps', af, g⟩ a w := h
theorem kd_box {d : Option Tmp} {t : TypeId} {x : Operand} {ty : TypeId} {ps' : String} {af : Array Edge} {g : Option (Nat × Bool)} (h : wL1 P ops Q rest ⟨d, (.box t x), ty, ps', af, g⟩ a w) : wL1 P ops Q rest ⟨d, (.box t x), ty, ps', af, g⟩ a w := h
theorem kt_box {t' : Ord} {d : Option Tmp} {t : TypeId} {x : Operand} {ty : TypeId} {ps' : String} {af : Array Edge} {g : Option (Nat × Bool)} (h : wT1 P ops Q S t' ⟨d, (.box t x), ty, ps', af, g⟩ a w) : wT1 P ops Q S t' ⟨d, (.box t x), ty, ps', af, g⟩ a w := h
theorem kd_build {d : Option Tmp} {t : TypeId} {ps : Array (Nat × Operand)} {ty : TypeId} {ps' : String} {af : Array Edge} {g : Option (Nat × Bool)} (h : wL1 P ops Q rest ⟨d, (.build t ps), ty, ps', af, g⟩ a w) : wL1 P ops Q rest ⟨d, (.build t ps), ty, ps', af, g⟩ a w := h
theorem kt_build {t' : Ord} {d : Option Tmp} {t : TypeId} {ps : Array (Nat × Operand)} {ty : TypeId} {ps' : String} {af : Array Edge} {g : Option (Nat × Bool)} (h : wT1 P ops Q S t' ⟨d, (.build t ps), ty, ps', af, g⟩ a w) : wT1 P ops Q S t' ⟨d, (.build t ps), ty, ps', af, g⟩ a w := h
theorem kd_buildSlice {d : Option Tmp} {t n : Nat} {ps : Array (Nat × Operand)} {ty : TypeId} {ps' : String} {af : Array Edge} {g : Option (Nat × Bool)} (h : wL1 P ops Q rest ⟨d, (.buildSlice t n ps), ty, ps', af, g⟩ a w) : wL1 P ops Q rest ⟨d, (.buildSlice t n ps), ty, ps', af, g⟩ a w := h
theorem kt_buildSlice {t' : Ord} {d : Option Tmp} {t n : Nat} {ps : Array (Nat × Operand)} {ty : TypeId} {ps' : String} {af : Array Edge} {g : Option (Nat × Bool)} (h : wT1 P ops Q S t' ⟨d, (.buildSlice t n ps), ty, ps', af, g⟩ a w) : wT1 P ops Q S t' ⟨d, (.buildSlice t n ps), ty, ps', af, g⟩ a w := h
theorem kd_makeSlice {d : Option Tmp} {t : TypeId} {x y : Operand} {ty : TypeId} {ps' : String} {af : Array Edge} {g : Option (Nat × Bool)} (h : wL1 P ops Q rest ⟨d, (.makeSlice t x y), ty, ps', af, g⟩ a w) : wL1 P ops Q rest ⟨d, (.makeSlice t x y), ty, ps', af, g⟩ a w := h
theorem kt_makeSlice {t' : Ord} {d : Option Tmp} {t : TypeId} {x y : Operand} {ty : TypeId} {ps' : String} {af : Array Edge} {g : Option (Nat × Bool)} (h : wT1 P ops Q S t' ⟨d, (.makeSlice t x y), ty, ps', af, g⟩ a w) : wT1 P ops Q S t' ⟨d, (.makeSlice t x y), ty, ps', af, g⟩ a w := h
theorem kd_convert {d : Option Tmp} {s t : TypeId} {x : Operand} {ty : TypeId} {ps' : String} {af : Array Edge} {g : Option (Nat × Bool)} (h : wL1 P ops Q rest ⟨d, (.convert s t x), ty, ps', af, g⟩ a w) : wL1 P ops Q rest ⟨d, (.convert s t x), ty, ps', af, g⟩ a w := h
theorem kt_convert {t' : Ord} {d : Option Tmp} {s t : TypeId} {x : Operand} {ty : TypeId} {ps' : String} {af : Array Edge} {g : Option (Nat × Bool)} (h : wT1 P ops Q S t' ⟨d, (.convert s t x), ty, ps', af, g⟩ a w) : wT1 P ops Q S t' ⟨d, (.convert s t x), ty, ps', af, g⟩ a w := h
theorem kd_makeFunc {d : Option Tmp} {f : Fn} {a1 b1 : Array Operand} {ty : TypeId} {ps' : String} {af : Array Edge} {g : Option (Nat × Bool)} (h : wL1 P ops Q rest ⟨d, (.makeFunc f a1 b1), ty, ps', af, g⟩ a w) : wL1 P ops Q rest ⟨d, (.makeFunc f a1 b1), ty, ps', af, g⟩ a w := h
theorem kt_makeFunc {t' : Ord} {d : Option Tmp} {f : Fn} {a1 b1 : Array Operand} {ty : TypeId} {ps' : String} {af : Array Edge} {g : Option (Nat × Bool)} (h : wT1 P ops Q S t' ⟨d, (.makeFunc f a1 b1), ty, ps', af, g⟩ a w) : wT1 P ops Q S t' ⟨d, (.makeFunc f a1 b1), ty, ps', af, g⟩ a w := h
end
attribute [irreducible] wT1 wG wGt wpT
end Go.Proofs.Ytmakdbkffeodlaa.Sl
