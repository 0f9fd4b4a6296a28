/-
  From a law's contract to its row: arguments opened, the row's post out of 'Sat'. No program of anybody's in it.
-/
import Derived.Test.YtmakdbkffeodlaaRd
import Derived.WalkKit
import Derived.ProofKit
import Derived.OpenShut
import Derived.Carry
import Derived.Deep.Grids
import Derived.JoinedCond
set_option linter.unusedVariables false
namespace Go.Proofs.Ytmakdbkffeodlaa.Sl
open Go Go.RowKit Go.ChangeShapes Go.WideShapes
section
variable {H : Type} {enc : TypeId × Value → H} {P : Program}
theorem post_of_below {f : Func} {s : ChangeSpec} {apart fresh handsOn again : Bool} {W W' : World} {args : Array Value} {v : Value} {ds gs : List (DataW H)} {before pa pv : List MemPlace}
    (hW : DataW.Whole enc P f.params.toList s.vars apart W args.toList ds gs before)
    (hres : ∀ (b : Nat) (sp : Nat → Bool) (hd : Bool), DataW.TrodAll enc P W' b sp hd f.resultTypes.toList (v.resultList f.resultTypes.size) (s.fn H (ds ++ gs)).results [])
    (hargs : ∀ sp : Nat → Bool, (∀ p ∈ before, sp p.block = true) → DataW.TrodAll enc P W' 0 sp true f.params.toList args.toList (s.fn H (ds ++ gs)).args pa)
    (hvars : ∀ sp : Nat → Bool, (∀ p ∈ before, sp p.block = true) → DataW.TrodVars enc P W' sp s.vars (s.fn H (ds ++ gs)).vars pv)
    (hps : before = pa ++ pv) (hb : Below W.heap.size W W')
    (hok : ∀ (j : Nat) (t : TypeId) (r : Value), f.resultTypes[j]? = some t → (v.resultList f.resultTypes.size)[j]? = some r → Value.okWide P W' .any 0 t r) :
    s.post enc P f apart fresh handsOn again W args v W' := by
  have hlt : ∀ p ∈ before, p.block < W.heap.size := fun p hp => hW.lt p hp
  have hold : ∀ p ∈ before, (fun b => decide (b < W.heap.size)) p.block = true := fun p hp => by simpa using hlt p hp
  refine ⟨ds, gs, before, [], pa, pv, hW, hres _ _ _, hargs _ hold, hvars _ hold, World.keptBut_mono (fun p hp => ⟨hp, ?_⟩) (hb.frame (· ∈ before)), fun _ => ?_⟩
  · rw [hps, List.mem_append] at hp
    exact Or.inr hp
  · obtain ⟨_, _, _, _, _, hz, hn⟩ := hW
    refine ⟨hok, _, _, ([] ++ pa) ++ pv, ⟨[] ++ pa, pv, trodAll_append (hargs _ (fun _ _ => rfl)) (hres _ _ _), hvars _ (fun _ _ => rfl), rfl, ?_, ?_⟩, ?_⟩
    · intro b off hp
      have hin : MemPlace.cell b off ∈ before := by rw [hps]; simpa using hp
      rw [hb.frozen (hlt _ hin)]
      exact hz b off hin
    · intro ha
      have := hn ha
      rw [hps] at this
      simpa using this
    · intro p hp _
      rw [hps]
      simpa using hp
def readAll (P : Program) (ts : List TypeId) : Bool := ts.all fun t => P.readableRec t && decide (t < P.types.size)
/-- All arguments read as they did. -/
theorem trodAll_later (hl : laidOutB P = true) {W W' : World} {sp : Nat → Bool} (hb : Below W.heap.size W W') :
    ∀ {ts : List TypeId} {vs : List Value} {ds : List (DataW H)} {ps : List MemPlace}, readAll P ts = true → DataW.TrodAll enc P W 0 (fun _ => true) true ts vs ds ps → (∀ p ∈ ps, p.block < W.heap.size ∧ sp p.block = true) → DataW.TrodAll enc P W' 0 sp true ts vs ds ps
  | [], _, _, _, _, h, _ => by obtain ⟨rfl, rfl, rfl⟩ := trodAll_nil h; exact trodAll_mk0
  | t :: ts, _, _, _, hr, h, hp => by
    obtain ⟨v, vs, d, ds, p, q, rfl, rfl, rfl, h1, h2⟩ := trodAll_cons h
    simp only [readAll, List.all_cons, Bool.and_eq_true, decide_eq_true_eq] at hr
    exact trodAll_cons_mk (WideElems.Trod_stays hl hr.1.1 hr.1.2 h1 (fun x hx => hb.same (hp x (by simp [hx])).1) (fun x hx => (hp x (by simp [hx])).2))
      (trodAll_later hl hb (by simpa [readAll] using hr.2) h2 (fun x hx => hp x (by simp [hx])))
/-- The post of a law: true, the arguments as they were. -/
theorem law_post {f : Func} {s : ChangeSpec} {apart fresh handsOn again : Bool} {W W' : World} {args : Array Value} {ds gs : List (DataW H)} {before : List MemPlace} {tb : TypeId} (hl : laidOutB P = true) (hr : readAll P f.params.toList = true)
    (hW : DataW.Whole enc P f.params.toList s.vars apart W args.toList ds gs before) (hv : s.vars = []) (hs : s.fn H (ds ++ gs) = { results := [.lit (.bool true)], args := ds })
    (hf : f.resultTypes = #[tb]) (ht : P.underlying tb = some .bool) (hb : Below W.heap.size W W') : s.post enc P f apart fresh handsOn again W args (.bool true) W' := by
  have hW' := hW
  obtain ⟨p, q, hA, hV, rfl, hfz, hnd⟩ := hW
  rw [hv] at hV
  obtain ⟨rfl, rfl⟩ := trodVars_none hV
  refine post_of_below (pa := p) (pv := []) hW' ?_ ?_ ?_ rfl hb (ok_one hf rfl (okWide_bool_mk ht _))
  · intro b sp hd
    rw [hs, hf]
    exact trodAll_cons_mk (shut_bool ht _) trodAll_mk0
  · intro sp hsp
    rw [hs]
    exact trodAll_later hl hb hr hA fun x hx => ⟨hW'.lt x (by simp [hx]), hsp x (by simp [hx])⟩
  · intro sp hsp
    rw [hs, hv]
    rfl
/-- A slice of ints, as it came in. -/
structure ArgI (W : World) (u : Value) (xs : List Int) : Prop where
  rd : Rd W [old W] u xs
  nil : ∀ n c, u = .slice none n c → n = 0 ∧ c = 0
  len : xs.length ≤ maxLen
  wf : ∀ x ∈ xs, -9223372036854775808 ≤ x ∧ x ≤ 9223372036854775807
theorem open_argI {t e : TypeId} (ht : P.underlying t = some (.slice e)) (he : P.underlying e = some (.int .i64)) (hc : P.cellsOf e = 1) {W : World} {v : Value} {d : DataW H} {ps : List MemPlace}
    {base : Nat} (hval : Value.okWide P W .any base t v) (h : DataW.Trod enc P W 0 (fun _ => true) true t v d ps) : ∃ xs, ArgI W v xs := by
  obtain ⟨n, h⟩ := h
  obtain ⟨p0, n0, c0, rfl⟩ := okWide_slice ht hval
  have hcs : ∀ p a b, (Value.slice p0 n0 c0).cells.toList = [.slice p a b] → Value.slice p0 n0 c0 = .slice p a b := by
    intro p a b hv
    simpa [Value.cells] using hv
  rcases open_ints ht he hc h with ⟨h1, _⟩ | ⟨a, len, cap, zs, h1, _, hl, hm, hz, _, hcell, hw⟩
  · rw [hcs _ _ _ h1]
    exact ⟨[], ⟨⟨none, 0, rfl, Nat.le_refl _, fun h => absurd h (by simp)⟩, (fun n c h => by cases h; exact ⟨rfl, rfl⟩), Nat.zero_le _, by simp⟩⟩
  · rw [hcs _ _ _ h1]
    simp only [if_true] at hz
    have hlen : (zs.take len).length = len := by simp; omega
    refine ⟨zs.take len, ?_, (fun n c h => by cases h), by omega, fun x hx => ?_⟩
    · rcases Nat.eq_zero_or_pos len with h0 | h0
      · subst h0
        refine ⟨some a, cap, by simp, by simp, fun h => absurd h (by simp)⟩
      · obtain ⟨b, off, rfl, hb⟩ := ints_at hcell (by omega)
        have := Rd.arg (W := W) (p := some ⟨b, off, none⟩) (g := b) (k := off) (c := cap) (xs := zs.take len) (fun _ => rfl) (by omega) (fun j x hx => by
          rw [List.getElem?_take] at hx
          split at hx
          · have hj := (List.getElem?_eq_some_iff.1 hx).1
            rw [hb j hj, List.getD, hx]; rfl
          · cases hx)
        rwa [hlen] at this
    · have := bounds_i64 (hw x (List.mem_of_mem_take hx))
      exact this
/-- A slice of bools that is read. -/
def RdB (W : World) (L : List Asn) (u : Value) (n : Nat) (T : Nat → Bool) : Prop :=
  ∃ p c, u = .slice p n c ∧ n ≤ c ∧ (0 < n → ∃ g k, p = some ⟨g, k, none⟩ ∧ ∀ j w, j < n → Sat W w L → w.cell? ⟨g, k + j, none⟩ = some (.bool (T j)))
/-- A slice of bools, as it came in. -/
structure ArgB (W : World) (u : Value) (x : Nat × (Nat → Bool)) : Prop where
  rd : RdB W [old W] u x.1 x.2
  len : x.1 ≤ maxLen
theorem open_argB {t e : TypeId} (ht : P.underlying t = some (.slice e)) (he : P.underlying e = some .bool) (hc : P.cellsOf e = 1) {W : World} {v : Value} {d : DataW H} {ps : List MemPlace}
    {base : Nat} (hval : Value.okWide P W .any base t v) (h : DataW.Trod enc P W 0 (fun _ => true) true t v d ps) : ∃ x, ArgB W v x := by
  obtain ⟨n, h⟩ := h
  obtain ⟨p0, n0, c0, rfl⟩ := okWide_slice ht hval
  have hcs : ∀ p a b, (Value.slice p0 n0 c0).cells.toList = [.slice p a b] → Value.slice p0 n0 c0 = .slice p a b := by
    intro p a b hv
    simpa [Value.cells] using hv
  rcases Go.Deep.open_bools ht he hc h with ⟨h1, _⟩ | ⟨a, len, cap, B, h1, _, hl, hm, _, hcell⟩
  · rw [hcs _ _ _ h1]
    exact ⟨(0, fun _ => false), ⟨⟨none, 0, rfl, Nat.le_refl _, fun h => absurd h (by simp)⟩, Nat.zero_le _⟩⟩
  · rw [hcs _ _ _ h1]
    refine ⟨(len, B), ⟨⟨some a, cap, rfl, hl, fun h0 => ?_⟩, by simp only; omega⟩⟩
    simp only at h0
    obtain ⟨b, off, spot⟩ := a
    have hspot : spot = none := by simpa [Addr.add] using World.cell?_spot (hcell 0 (by omega))
    subst hspot
    refine ⟨b, off, rfl, fun j w hj H => ?_⟩
    simp only at hj
    have hc := hcell j (by omega)
    rw [add_plain] at hc
    have hlt := World.block_lt_of_cell? W _ hc
    rw [(H.below).cell (p := ⟨b, off + j, none⟩) hlt]
    exact hc
end
end Go.Proofs.Ytmakdbkffeodlaa.Sl
