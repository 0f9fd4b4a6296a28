/-
  Slices of whole numbers that are read: by whoever owns them, or as they came in. No program of anybody's in it.
-/
import Derived.Test.YtmakdbkffeodlaaSq
set_option linter.unusedVariables false
set_option linter.unusedSimpArgs false
namespace Go.Proofs.Ytmakdbkffeodlaa.Sl
open Go Go.RowKit
theorem hid {p : Prop} (h : p) : Hid p := h
def ints (xs : List Int) : List Value := xs.map fun x => .int .i64 x
theorem ints_length (xs : List Int) : (ints xs).length = xs.length := by simp [ints]
theorem ints_get {xs : List Int} {j : Nat} {x : Int} (h : xs[j]? = some x) : (ints xs)[j]? = some (.int .i64 x) := by simp [ints, h]
theorem ints_set (xs : List Int) (j : Nat) (x : Int) : (ints xs).set j (.int .i64 x) = ints (xs.set j x) := by simp [ints]
theorem ints_append (xs ys : List Int) : ints xs ++ ints ys = ints (xs ++ ys) := by simp [ints]
theorem Sat.rowVal {W w : World} {L : List Asn} (H : Sat W w L) (i : Nat) {v : Value} {n size : Nat} {e : TypeId} {xs : List Value} (hi : L[i]? = some (row v e size n xs)) :
    ∃ p cap, v = .slice p n cap ∧ n ≤ cap ∧ cap ≤ maxLen ∧ (0 < n → ∃ g, p = some ⟨g, 0, none⟩) := by
  rcases H.rowShape i hi with ⟨rfl, rfl, _⟩ | ⟨g, cap, rfl, h1, h2⟩
  · exact ⟨none, 0, rfl, Nat.le_refl _, Nat.zero_le _, fun h => absurd h (by omega)⟩
  · exact ⟨_, cap, rfl, h1, h2, fun _ => ⟨g, rfl⟩⟩
/-- A row cut short. -/
theorem Sat.rowCut {W w : World} {L : List Asn} {g n cap size : Nat} {e : TypeId} {xs : List Value} (H : Sat W w (row (.slice (some ⟨g, 0, none⟩) n cap) e size n xs :: L)) (m : Nat) (hm : m ≤ n) : Sat W w (row (.slice (some ⟨g, 0, none⟩) m cap) e size m (xs.take (m * size)) :: L) :=
  H.imp fun h hr => by
    obtain ⟨hl, h1⟩ := hr
    rcases h1 with ⟨h1, _⟩ | ⟨g', cap', cur, h1, h2, h3, h4, h5, h6⟩
    · cases h1
    · simp only [Value.slice.injEq, Option.some.injEq, Addr.mk.injEq, and_true, true_and] at h1
      obtain ⟨rfl, rfl⟩ := h1
      have hle : m * size ≤ n * size := Nat.mul_le_mul_right _ hm
      refine ⟨by rw [List.length_take, hl]; omega, .inr ⟨g, cap, cur, rfl, h2, by omega, h4, h5, ?_⟩⟩
      rw [← h6, List.take_take]
      congr 1
      omega
/-- The slice v reads as xs wherever L holds. -/
def Rd (W : World) (L : List Asn) (v : Value) (xs : List Int) : Prop :=
  ∃ p c, v = .slice p xs.length c ∧ xs.length ≤ c ∧ (0 < xs.length → ∃ g k, p = some ⟨g, k, none⟩ ∧ ∀ (j : Nat) x w, xs[j]? = some x → Sat W w L → w.cell? ⟨g, k + j, none⟩ = some (.int .i64 x))
theorem Rd.cons {W : World} {L : List Asn} {v : Value} {xs : List Int} (h : Rd W L v xs) (A : Asn) : Rd W (A :: L) v xs := by
  obtain ⟨p, c, h1, h2, h3⟩ := h
  refine ⟨p, c, h1, h2, fun hp => ?_⟩
  obtain ⟨g, k, h4, h5⟩ := h3 hp
  exact ⟨g, k, h4, fun j x w hx H => h5 j x w hx H.drop⟩
theorem Rd.app {W : World} {L : List Asn} {v : Value} {xs : List Int} (h : Rd W L v xs) : ∀ (M : List Asn), Rd W (M ++ L) v xs
  | [] => h
  | A :: M => (Rd.app h M).cons A
theorem Rd.perm {W : World} {L L' : List Asn} {v : Value} {xs : List Int} (h : Rd W L v xs) (hp : L'.Perm L) : Rd W L' v xs := by
  obtain ⟨p, c, h1, h2, h3⟩ := h
  refine ⟨p, c, h1, h2, fun hp' => ?_⟩
  obtain ⟨g, k, h4, h5⟩ := h3 hp'
  exact ⟨g, k, h4, fun j x w hx H => h5 j x w hx (H.perm hp)⟩
/-- A row of one's own reads as what it holds. -/
theorem Rd.row {W w : World} {L : List Asn} {v : Value} {xs : List Int} {e : TypeId} {n : Nat} (H : Sat W w L) (i : Nat) (hi : L[i]? = some (row v e 1 n (ints xs))) : Rd W L v xs := by
  have hl := H.rowLen i hi
  rw [ints_length] at hl
  obtain rfl : n = xs.length := by omega
  rcases H.rowShape i hi with ⟨rfl, h0, hx⟩ | ⟨g, cap, rfl, hc, _⟩
  · exact ⟨none, 0, by rw [h0], by omega, fun hp => absurd hp (by omega)⟩
  · refine ⟨some ⟨g, 0, none⟩, cap, rfl, hc, fun _ => ⟨g, 0, rfl, fun j x w hx H => ?_⟩⟩
    rw [Nat.zero_add]
    exact H.rowCell i hi j (ints_get hx)
/-- What an argument's cells say. -/
theorem Rd.arg {W : World} {p : Option Addr} {g k c : Nat} {xs : List Int} (hp : 0 < xs.length → p = some ⟨g, k, none⟩) (hc : xs.length ≤ c) (h : ∀ (j : Nat) x, xs[j]? = some x → W.cell? ⟨g, k + j, none⟩ = some (.int .i64 x)) : Rd W [old W] (.slice p xs.length c) xs := by
  refine ⟨p, c, rfl, hc, fun h0 => ⟨g, k, hp h0, fun j x w hx H => ?_⟩⟩
  have hcell := h j x hx
  have hlt := World.block_lt_of_cell? W _ hcell
  rw [(H.below).cell (p := ⟨g, k + j, none⟩) hlt]
  exact hcell
section
variable {P : Program} {o : Oper} {a : Act} {W w : World} {L : List Asn} {S : World → Prop} {v : Value}
/-- A load of an element that is read. -/
theorem y_rd {M : List Asn} {g k j : Nat} {xs : List Int} {x : Int} (hr : ∀ (j : Nat) x w, xs[j]? = some x → Sat W w M → w.cell? ⟨g, k + j, none⟩ = some (.int .i64 x)) (hS : ∀ w, S w → Sat W w M) (ty : TypeId) (y : Operand) (ho : o.op = .load ty y) {off : Nat}
    (hx' : evl a y = some (.pointer (some ⟨g, off, none⟩))) (hoff : off = k + j) (hagg : aggB P ty = some false) (hx : xs[j]? = some x) : Yf P S a o (.int .i64 x) := by
  subst hoff
  exact y_loadC ty y ho hx' hagg fun w h => hr j x w hx (hS w h)
end

/-! ### Slice literals -/
theorem fill_one {size : Nat} {z : Array Value} (hz : z.size = size) {v : Value} (hv : v.cells.size = size) : Instr.fill (fun i => some (i * size, size)) z [(0, v)] = some v.cells := by
  have key : ∀ (l : List Value) (k : Nat) (z : Array Value), k + l.length = z.size → (l.zipIdx k).foldl (fun cs (x : Value × Nat) => cs.setIfInBounds (0 + x.2) x.1) z = (z.toList.take k ++ l).toArray := by
    intro l
    induction l with
    | nil => intro k z hk; simp at hk; subst hk; apply Array.ext'; simp [← Array.length_toList]
    | cons x l ih =>
      intro k z hk
      simp only [List.length_cons] at hk
      simp only [List.zipIdx_cons, List.foldl_cons]
      rw [ih (k + 1) _ (by simp; omega)]
      apply Array.ext'
      simp only [Nat.zero_add, Array.toList_setIfInBounds]
      rw [List.take_set, List.take_succ_eq_append_getElem (by simp; omega), List.set_append]
      simp only [List.length_take, Array.length_toList]
      rw [if_neg (by omega), show k - min k z.size = 0 by omega]
      simp
  have hk := key v.cells.toList 0 z (by simp; omega)
  have h1 : ¬ ((v.cells.size ≠ size || decide (0 * size + v.cells.size > z.size)) = true) := by simp [hv, hz]
  have e : v.cells.zipIdx.foldl (fun cs (x : Value × Nat) => cs.setIfInBounds (0 * size + x.2) x.1) z = v.cells := by
    rw [← Array.foldl_toList, Array.toList_zipIdx]
    simpa using hk
  simp only [Instr.fill]
  rw [if_neg h1, e]
theorem fill_cells' (place : Nat → Option (Nat × Nat)) (N : Nat) (hpl : ∀ i, i < N → place i = some (i, 1)) : ∀ (ps : List (Nat × Value)) (k : Nat) (z : Array Value), ps.map (·.1) = List.range' k ps.length → (∀ p ∈ ps, p.2.oneCell' = true) → k + ps.length = z.size → z.size = N →
    Instr.fill place z ps = some (z.toList.take k ++ ps.map (·.2)).toArray
  | [], k, z, _, _, hk, _ => by
    simp at hk; subst hk
    simp only [Instr.fill]
    congr 1
    apply Array.ext'; simp [← Array.length_toList]
  | (i, v) :: ps, k, z, hm, h1, hk, hN => by
    simp only [List.map_cons, List.length_cons, List.range'_succ, List.cons.injEq] at hm
    obtain ⟨rfl, hm⟩ := hm
    have hv := h1 (i, v) (by simp)
    have hc : v.cells = #[v] := by cases v <;> first | rfl | (simp [Value.oneCell'] at hv)
    simp only [List.length_cons] at hk
    have ih := fill_cells' place N hpl ps (i + 1) (z.setIfInBounds i v) hm (fun p hp => h1 p (by simp [hp])) (by simp; omega) (by simpa using hN)
    have h2 : ¬ ((v.cells.size ≠ 1 || decide (i + v.cells.size > z.size)) = true) := by simp [hc]; omega
    simp only [Instr.fill, hpl i (by omega)]
    rw [if_neg h2, hc]
    have e0 : (#[v] : Array Value).zipIdx.foldl (fun cs (x : Value × Nat) => cs.setIfInBounds (i + x.2) x.1) z = z.setIfInBounds i v := by
      rw [← Array.foldl_toList, Array.toList_zipIdx]; simp
    rw [e0, ih]
    congr 1
    apply Array.ext'
    simp only [Array.toList_setIfInBounds]
    rw [List.take_set, List.take_succ_eq_append_getElem (by simp; omega), List.set_append]
    simp only [List.length_take, Array.length_toList]
    rw [if_neg (by omega), show i - min i z.size = 0 by omega]
    simp
theorem fill_cells (ps : List (Nat × Value)) (k : Nat) (z : Array Value) (hm : ps.map (·.1) = List.range' k ps.length) (h1 : ∀ p ∈ ps, p.2.oneCell' = true) (hk : k + ps.length = z.size) :
    Instr.fill (fun i => some (i * 1, 1)) z ps = some (z.toList.take k ++ ps.map (·.2)).toArray :=
  fill_cells' _ z.size (fun i _ => by simp) ps k z hm h1 hk rfl
/-- The values of parts that come in their order. -/
def valsO : Nat → List (Nat × Value) → Option (List Value)
  | _, [] => some []
  | k, (i, v) :: l => match Nat.beq i k, valsO (k + 1) l with | true, some vs => some (v :: vs) | _, _ => none
theorem valsO_spec : ∀ (k : Nat) (ps : List (Nat × Value)) {vs : List Value}, valsO k ps = some vs → ps.map (·.1) = List.range' k ps.length ∧ ps.map (·.2) = vs
  | _, [], _, h => by simp [valsO] at h; subst h; simp
  | k, (i, v) :: l, vs, h => by
    unfold valsO at h
    split at h
    · rename_i vs' h1 h2
      cases h
      have := valsO_spec (k + 1) l h2
      simp [List.range'_succ, this.1, this.2, Nat.eq_of_beq_eq_true h1]
    · cases h
section
variable {P : Program} {o : Oper} {a : Act} {S : World → Prop}
def notO : Bool → Option Bool | true => some false | false => some true
theorem y_not1 (t : TypeId) (x : Operand) (ho : o.op = .unOp .not t x) {b r : Bool} (hx' : evl a x = some (.bool b)) (hr : notO b = some r) : Yf P S a o (.bool r) := by
  obtain rfl : r = !b := by cases b <;> simp [notO] at hr <;> simp [hr]
  exact y_not t x ho hx' rfl
/-- A struct's literal, each of whose fields is one cell. -/
theorem y_build1 (t : TypeId) (parts : Array (Nat × Operand)) (ho : o.op = .build t parts) {ps : List (Nat × Value)} (hp' : evlp a parts.toList = some ps) {n : Nat} (hF : flatN P t = some n) {vs : List Value} (hv : valsO 0 ps = some vs) (hn' : Nat.beq vs.length n = true) (h1 : ∀ v ∈ vs, v.oneCell' = true) : Yf P S a o (.agg vs.toArray) := by
  have hn := Nat.eq_of_beq_eq_true hn'
  obtain ⟨hm, hvs⟩ := valsO_spec 0 ps hv
  have hb : P.built t ps = some vs.toArray := by
    unfold flatN at hF
    unfold Program.built
    cases hit : P.info? t with
    | none => simp [hit] at hF
    | some it =>
      cases hu : P.underlying t with
      | none => simp [hit, hu] at hF
      | some d =>
        cases d <;> try (simp [hit, hu] at hF; done)
        rename_i fs
        simp only [hit, hu] at hF ⊢
        split at hF
        · rename_i z places hz hpl
          split at hF
          · rename_i hc
            simp only [Option.some.injEq] at hF
            rw [hz, hpl]
            simp only
            have hl : ps.length = places.length := by rw [hF, ← hn, ← hvs]; simp
            rw [fill_cells' _ places.length (fun i hi => ?_) ps 0 z.cells hm (fun p hp => h1 _ (by rw [← hvs]; exact List.mem_map_of_mem hp)) (by omega) hc.2, hvs]
            · simp
            · have : places[i]? = some (i, 1) := by rw [hc.1, List.getElem?_map, List.getElem?_range hi]; rfl
              simpa using this
          · cases hF
        · cases hF
  exact y_build t parts ho hp' hb
end
section
variable {P : Program} {o : Oper} {a : Act} {W w : World} {L : List Asn} {K : Act → World → Prop}
theorem run_lit {t n e size : Nat} {parts : Array (Nat × Value)} {z : Value} {bytes : Nat} (he : sliceElem P t = some e) (hinf : (P.info? e).map (fun i => (i.zero, i.size, i.bytes)) = some (some z, size, bytes)) (hn : n * size ≤ 2 ^ 24) {cells : Array Value}
    (h0 : n * size = 0 → parts.toList = [] ∧ cells = #[]) (hf : n * size ≠ 0 → ∀ zs : Array Value, zs.size = n * size → Instr.fill (fun i => some (i * size, size)) zs parts.toList = some cells) (w : World) :
    (Instr.buildSlice t n parts).run P w = .ok (.slice (some ⟨w.heap.size, 0, none⟩) n n) (w.alloc (.cells cells e)) := by
  obtain ⟨i0, hi0, hz0, hz1, hz2⟩ := info_parts hinf
  have hu := sliceElem_spec he
  have hzv : (zeroValue e).run P w = .ok z w := by simp [zeroValue, typeInfo, hi0, hz0]
  have hsz : (sizeOf e).run P w = .ok size w := by simp [sizeOf, typeInfo, hi0, hz1]
  have hn' : ¬ n * size > 2 ^ 24 := by omega
  by_cases hz : n * size = 0
  · obtain ⟨hp, hc⟩ := h0 hz
    simp only [Instr.buildSlice, Sem.run_bind, run_underlying hu, Result.andThen_ok, hsz, hn', if_false, hz, if_true, Sem.run_pure, hp, Instr.fill, hc]
    simp [newRow]
    congr 2
    apply Array.ext'; simp
  · simp only [Instr.buildSlice, Sem.run_bind, run_underlying hu, Result.andThen_ok, hsz, hn', if_false, hz, hzv, Sem.run_pure]
    rw [hf hz _ (by simp)]
    simp [newRow]
/-- '[]T{}'. -/
theorem e_lit0 (H : Sat W w L) (t : TypeId) (ho : o.op = .buildSlice t 0 #[]) {e size bytes : Nat} {z : Value} (he : sliceElem P t = some e) (hinf : (P.info? e).map (fun i => (i.zero, i.size, i.bytes)) = some (some z, size, bytes))
    (h : ∀ g w', Sat W w' (row (.slice (some ⟨g, 0, none⟩) 0 0) e size 0 [] :: L) → K (a.put o.dst (.slice (some ⟨g, 0, none⟩) 0 0)) w') : Ef P a o w K := by
  have hr := run_lit (P := P) (n := 0) (parts := #[]) (cells := #[]) he hinf (by simp) (fun _ => ⟨rfl, rfl⟩) (fun h => absurd (by simp) h) w
  refine .inl ⟨_, _, ?_, h _ _ (row_mk H [] e size 0 (by simp) (Nat.zero_le _))⟩
  unfold execOp
  simp only [ho, Sem.run_bind]
  have e1 : (#[] : Array (Nat × Operand)).map (fun (x : Nat × Operand) => (x.1, a.eval x.2)) = #[] := by apply Array.ext'; simp
  simp only [e1, hr, Result.andThen_ok]
  rfl
/-- '[]T{x}'. -/
theorem e_lit1 (H : Sat W w L) (t : TypeId) (x : Operand) (ho : o.op = .buildSlice t 1 #[(0, x)]) {v : Value} (hx' : evl a x = some v) {e size bytes : Nat} {z : Value} (he : sliceElem P t = some e) (hinf : (P.info? e).map (fun i => (i.zero, i.size, i.bytes)) = some (some z, size, bytes))
    (hv : v.cells.size = size) (hn : 1 * size ≤ 2 ^ 24) (h0 : 0 < size)
    (h : ∀ g w', Sat W w' (row (.slice (some ⟨g, 0, none⟩) 1 1) e size 1 v.cells.toList :: L) → K (a.put o.dst (.slice (some ⟨g, 0, none⟩) 1 1)) w') : Ef P a o w K := by
  have hx := evl_spec hx'
  have hr := run_lit (P := P) (n := 1) (parts := #[(0, v)]) (cells := v.cells) he hinf hn (fun h => absurd h (by omega)) (fun _ zs hz => fill_one (by omega) hv) w
  have hm := row_mk H v.cells.toList e size 1 (by simp; omega) (by simp [maxLen])
  rw [Array.toArray_toList] at hm
  refine .inl ⟨_, _, ?_, h _ _ hm⟩
  unfold execOp
  simp only [ho, Sem.run_bind]
  have e1 : #[((0 : Nat), x)].map (fun (x : Nat × Operand) => (x.1, a.eval x.2)) = #[(0, v)] := by simp [hx]
  simp only [e1, hr, Result.andThen_ok]
  rfl
/-- '[]T{x, y, ..}', each of one cell. -/
theorem e_lits (H : Sat W w L) (t : TypeId) (n : Nat) (parts : Array (Nat × Operand)) (ho : o.op = .buildSlice t n parts) {ps : List (Nat × Value)} (hp' : evlp a parts.toList = some ps) {e bytes : Nat} {z : Value} (he : sliceElem P t = some e) (hinf : (P.info? e).map (fun i => (i.zero, i.size, i.bytes)) = some (some z, 1, bytes))
    (hl : ps.length = n) (hi : ps.map (·.1) = List.range' 0 ps.length) (h1 : ∀ p ∈ ps, p.2.oneCell' = true) (hn : n ≤ 16777216)
    (h : ∀ g w', Sat W w' (row (.slice (some ⟨g, 0, none⟩) n n) e 1 n (ps.map (·.2)) :: L) → K (a.put o.dst (.slice (some ⟨g, 0, none⟩) n n)) w') : Ef P a o w K := by
  have hp : (parts.map fun (i, x) => (i, a.eval x)) = ps.toArray := by rw [← evlp_spec hp']; apply Array.ext'; simp
  have hr := run_lit (P := P) (n := n) (parts := ps.toArray) (cells := (ps.map (·.2)).toArray) he hinf (by rw [Nat.mul_one]; exact hn) (fun h => by have : ps = [] := List.eq_nil_of_length_eq_zero (by omega); subst this; exact ⟨rfl, rfl⟩)
    (fun _ zs hz => by have := fill_cells ps 0 zs hi h1 (by omega); simpa using this) w
  refine .inl ⟨_, _, ?_, h _ _ (row_mk H (ps.map (·.2)) e 1 n (by simp; omega) (by simp only [maxLen]; omega))⟩
  unfold execOp
  simp only [ho, hp, Sem.run_bind, hr, Result.andThen_ok]
  rfl
end
end Go.Proofs.Ytmakdbkffeodlaa.Sl
