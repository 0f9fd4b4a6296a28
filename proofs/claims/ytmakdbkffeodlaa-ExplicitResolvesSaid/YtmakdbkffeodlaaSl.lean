/-
  A small logic of memory: a list of assertions, each of which owns blocks of its own; what is not owned stays as it was. No program of anybody's in it.
-/
import Derived.WalkKit
import Derived.Below
import Derived.ChangeSame
import Derived.Deep.Draws
import Derived.Deep.RegionHeld3
import Derived.Deep.QuietTactic
import Derived.BigQuiet
import Derived.KernelRfl
set_option linter.unusedVariables false
set_option linter.unusedSimpArgs false
namespace Go.Proofs.Ytmakdbkffeodlaa.Sl
open Go Go.RowKit

abbrev Hp := Nat → Option Obj
abbrev Asn := Hp → Prop

def Hp.le (h h' : Hp) : Prop := ∀ k o, h k = some o → h' k = some o
def Hp.sub (h h1 : Hp) : Hp := fun k => match h1 k with | none => h k | some _ => none
def one (b : Nat) (o : Obj) : Hp := fun k => if k = b then some o else none

def big : List Asn → Hp → Prop
  | [], _ => True
  | A :: L, h => ∃ h1, A h1 ∧ Hp.le h1 h ∧ big L (Hp.sub h h1)

theorem Hp.le_refl (h : Hp) : Hp.le h h := fun _ _ e => e
theorem Hp.le_trans {a b c : Hp} (h : Hp.le a b) (k : Hp.le b c) : Hp.le a c := fun i o e => k i o (h i o e)
theorem Hp.sub_le (h h1 : Hp) : Hp.le (Hp.sub h h1) h := fun k o e => by
  unfold Hp.sub at e; split at e <;> simp_all
theorem Hp.sub_mono {h h' : Hp} (k : Hp.le h h') (h1 : Hp) : Hp.le (Hp.sub h h1) (Hp.sub h' h1) := fun i o e => by
  unfold Hp.sub at *; split at e
  · exact k i o e
  · cases e
theorem Hp.sub_comm (h a b : Hp) : Hp.sub (Hp.sub h a) b = Hp.sub (Hp.sub h b) a := by
  funext k; unfold Hp.sub; cases a k <;> cases b k <;> rfl
theorem big_mono : ∀ {L : List Asn} {h h' : Hp}, Hp.le h h' → big L h → big L h'
  | [], _, _, _, _ => trivial
  | _ :: _, _, _, k, ⟨h1, ha, hl, hb⟩ => ⟨h1, ha, Hp.le_trans hl k, big_mono (Hp.sub_mono k h1) hb⟩
theorem big_swap {A B : Asn} {L : List Asn} {h : Hp} (H : big (A :: B :: L) h) : big (B :: A :: L) h := by
  obtain ⟨h1, ha, hl, h2, hb, hl2, hr⟩ := H
  refine ⟨h2, hb, Hp.le_trans hl2 (Hp.sub_le _ _), h1, ha, ?_, by rw [Hp.sub_comm]; exact hr⟩
  intro k o e
  have e' := hl k o e
  unfold Hp.sub
  cases h2k : h2 k with
  | none => exact e'
  | some o2 =>
    have := hl2 k o2 h2k
    unfold Hp.sub at this
    rw [e] at this
    cases this
theorem big_drop {A : Asn} {L : List Asn} {h : Hp} (H : big (A :: L) h) : big L h := by
  obtain ⟨h1, _, _, hr⟩ := H
  exact big_mono (Hp.sub_le _ _) hr
theorem big_cons_mono {A : Asn} {L L' : List Asn} (hL : ∀ h, big L h → big L' h) {h : Hp} (H : big (A :: L) h) : big (A :: L') h := by
  obtain ⟨h1, ha, hl, hr⟩ := H
  exact ⟨h1, ha, hl, hL _ hr⟩
theorem big_imp {A B : Asn} {L : List Asn} (hab : ∀ h, A h → B h) {h : Hp} (H : big (A :: L) h) : big (B :: L) h := by
  obtain ⟨h1, ha, hl, hr⟩ := H
  exact ⟨h1, hab _ ha, hl, hr⟩
theorem big_perm {L L' : List Asn} (p : L.Perm L') : ∀ {h : Hp}, big L h → big L' h := by
  induction p with
  | nil => exact fun h => h
  | cons _ _ ih => exact fun h => big_cons_mono (fun _ => ih) h
  | swap _ _ _ => exact fun h => big_swap h
  | trans _ _ ih1 ih2 => exact fun h => ih2 (ih1 h)

/-- The memory of a world. -/
def hp (w : World) : Hp := fun k => w.heap[k]?

structure Sat (W w : World) (L : List Asn) : Prop where
  os : w.os = W.os
  tape : w.tape = W.tape
  output : w.output = W.output
  mem : big L (hp w)

theorem Sat.perm {W w : World} {L L' : List Asn} (H : Sat W w L) (p : L.Perm L') : Sat W w L' := ⟨H.os, H.tape, H.output, big_perm p H.mem⟩
theorem Sat.drop {W w : World} {A : Asn} {L : List Asn} (H : Sat W w (A :: L)) : Sat W w L := ⟨H.os, H.tape, H.output, big_drop H.mem⟩
theorem Sat.imp {W w : World} {A B : Asn} {L : List Asn} (H : Sat W w (A :: L)) (h : ∀ m, A m → B m) : Sat W w (B :: L) := ⟨H.os, H.tape, H.output, big_imp h H.mem⟩

/-- Number i comes to the front. -/
def toFront {α : Type} (i : Nat) (L : List α) : List α := match L[i]? with | some a => a :: L.eraseIdx i | none => L
theorem perm_toFront {α : Type} : ∀ (i : Nat) (L : List α), L.Perm (toFront i L)
  | i, [] => by cases i <;> exact List.Perm.refl _
  | 0, a :: L => List.Perm.refl _
  | i + 1, a :: L => by
    have ih := perm_toFront i L
    unfold toFront at *
    simp only [List.getElem?_cons_succ, List.eraseIdx_cons_succ]
    cases hb : L[i]? with
    | some b => simp only [hb] at ih ⊢; exact (ih.cons a).trans (List.Perm.swap _ _ _)
    | none => exact List.Perm.refl _
theorem Sat.up {W w : World} {L : List Asn} (i : Nat) (H : Sat W w L) : Sat W w (toFront i L) := H.perm (perm_toFront i L)
/-- The front goes to place i. -/
def down {α : Type} (i : Nat) : List α → List α | [] => [] | a :: L => L.insertIdx i a
theorem Sat.down {W w : World} {A : Asn} {L : List Asn} (i : Nat) (h : i ≤ L.length) (H : Sat W w (A :: L)) : Sat W w (L.insertIdx i A) :=
  H.perm (List.perm_insertIdx A L h).symm

/-- What stood when the call began stands as it stood. -/
def old (W : World) : Asn := fun h => h = hp W
theorem Sat.begin (W : World) : Sat W W [old W] := ⟨rfl, rfl, rfl, hp W, rfl, Hp.le_refl _, trivial⟩
theorem Sat.oldBlock {W w : World} {L : List Asn} (H : Sat W w (old W :: L)) {k : Nat} {o : Obj} (h : W.heap[k]? = some o) : w.heap[k]? = some o := by
  obtain ⟨h1, rfl, hl, _⟩ := H.mem
  exact hl k o h
theorem Sat.oldSize {W w : World} {L : List Asn} (H : Sat W w (old W :: L)) : W.heap.size ≤ w.heap.size := by
  rcases Nat.eq_zero_or_pos W.heap.size with h0 | h0
  · omega
  · have := H.oldBlock (k := W.heap.size - 1) (Array.getElem?_eq_getElem (by omega))
    have := (Array.getElem?_eq_some_iff.1 this).1
    omega
theorem Sat.below {W w : World} {L : List Asn} (H : Sat W w (old W :: L)) : Below W.heap.size W w :=
  ⟨H.os, H.tape, H.output, H.oldSize, fun k hk => by
    rw [Array.getElem?_eq_getElem hk]
    exact H.oldBlock (Array.getElem?_eq_getElem hk)⟩

/-- The step: the front's blocks turn, others come, nothing else turns. -/
theorem Sat.step {W w w' : World} {A B : Asn} {L : List Asn} (H : Sat W w (A :: L)) (ho : w'.os = w.os) (ht : w'.tape = w.tape) (hu : w'.output = w.output)
    (hs : ∀ m, A m → Hp.le m (hp w) → ∃ m', B m' ∧ Hp.le m' (hp w') ∧ ∀ (k : Nat) (o : Obj), w.heap[k]? = some o → m k = none → w'.heap[k]? = some o ∧ m' k = none) : Sat W w' (B :: L) := by
  obtain ⟨m, ha, hl, hr⟩ := H.mem
  obtain ⟨m', hb, hl', hk⟩ := hs m ha hl
  refine ⟨ho.trans H.os, ht.trans H.tape, hu.trans H.output, m', hb, hl', big_mono ?_ hr⟩
  intro k o e
  unfold Hp.sub at *
  split at e
  · rename_i hm
    obtain ⟨h1, h2⟩ := hk k o e hm
    rw [h2]; exact h1
  · cases e
/-- Others come, nothing turns. -/
theorem Sat.new {W w w' : World} {B : Asn} {L : List Asn} (H : Sat W w L) (ho : w'.os = w.os) (ht : w'.tape = w.tape) (hu : w'.output = w.output)
    (m' : Hp) (hb : B m') (hl : Hp.le m' (hp w')) (hk : ∀ (k : Nat) (o : Obj), w.heap[k]? = some o → w'.heap[k]? = some o ∧ m' k = none) : Sat W w' (B :: L) := by
  refine ⟨ho.trans H.os, ht.trans H.tape, hu.trans H.output, m', hb, hl, big_mono ?_ H.mem⟩
  intro k o e
  obtain ⟨h1, h2⟩ := hk k o e
  unfold Hp.sub
  rw [h2]; exact h1
/-- Nothing turns. -/
theorem Sat.same {W w w' : World} {L : List Asn} (H : Sat W w L) (ho : w'.os = w.os) (ht : w'.tape = w.tape) (hu : w'.output = w.output)
    (hk : ∀ (k : Nat) (o : Obj), w.heap[k]? = some o → w'.heap[k]? = some o) : Sat W w' L :=
  ⟨ho.trans H.os, ht.trans H.tape, hu.trans H.output, big_mono (fun k o e => hk k o e) H.mem⟩
theorem Sat.drew {W w : World} {L : List Asn} (H : Sat W w L) : Sat W w.drew L := H.same rfl rfl rfl fun _ _ h => h
theorem Sat.drewN {W w : World} {L : List Asn} (H : Sat W w L) (n : Nat) : Sat W (w.drewN n) L := H.same rfl rfl rfl fun _ _ h => h

/-! ### A block of cells -/
def blk (b : Nat) (cs : List Value) (t : TypeId) : Asn := fun h => h = one b (.cells cs.toArray t (0, 0))
theorem one_self (b : Nat) (o : Obj) : one b o b = some o := by simp [one]
theorem one_le {b : Nat} {o : Obj} {w : World} (h : w.heap[b]? = some o) : Hp.le (one b o) (hp w) := fun k o' e => by
  unfold one at e; split at e
  · rename_i hk; subst hk; cases e; exact h
  · cases e
theorem Sat.get {W w : World} {b : Nat} {cs : List Value} {t : TypeId} {L : List Asn} (H : Sat W w (blk b cs t :: L)) : w.heap[b]? = some (.cells cs.toArray t (0, 0)) := by
  obtain ⟨m, rfl, hl, _⟩ := H.mem
  exact hl b _ (one_self b _)
theorem Sat.mem_get {W w : World} {A : Asn} {L : List Asn} (H : Sat W w L) (i : Nat) (hi : L[i]? = some A) : Sat W w (A :: L.eraseIdx i) := by
  have := H.up i
  unfold toFront at this
  rw [hi] at this
  exact this
theorem Sat.cell {W w : World} {b : Nat} {cs : List Value} {t : TypeId} {L : List Asn} (H : Sat W w L) (i : Nat) (hi : L[i]? = some (blk b cs t)) (k : Nat) {v : Value} (hv : cs[k]? = some v) : w.cell? ⟨b, k, none⟩ = some v := by
  rw [cell_of_row w b k _ t (0, 0) (H.mem_get i hi).get]; simpa using hv
theorem Sat.free {W w : World} {b : Nat} {cs : List Value} {t : TypeId} {L : List Asn} (H : Sat W w L) (i : Nat) (hi : L[i]? = some (blk b cs t)) (k : Nat) : w.frozen? ⟨b, k, none⟩ = false :=
  frozen_of_row w b k _ t (H.mem_get i hi).get
theorem Sat.alloc {W w : World} {L : List Asn} (H : Sat W w L) (cs : List Value) (t : TypeId) : Sat W (w.alloc (.cells cs.toArray t)) (blk w.heap.size cs t :: L) :=
  H.new rfl rfl rfl (one w.heap.size (.cells cs.toArray t (0, 0))) rfl (one_le (heap_alloc_new w _)) fun k o h => by
    have hk := (Array.getElem?_eq_some_iff.1 h).1
    exact ⟨(Below.heap_alloc w _ k hk).trans h, by unfold one; rw [if_neg (by omega)]⟩
theorem Sat.setRow {W w : World} {b : Nat} {cs : List Value} {t : TypeId} {L : List Asn} (H : Sat W w (blk b cs t :: L)) (cs' : List Value) : Sat W (w.setRow b cs'.toArray) (blk b cs' t :: L) :=
  H.step rfl rfl rfl fun m hm hl => by
    subst hm
    have hg : w.heap[b]? = some (.cells cs.toArray t (0, 0)) := hl b _ (one_self b _)
    refine ⟨_, rfl, one_le (setRow_heap w b _ _ t (0, 0) hg), fun k o hk hn => ?_⟩
    have hne : k ≠ b := fun e => by subst e; rw [one_self] at hn; cases hn
    exact ⟨(setRow_other w b k _ hne).trans hk, by unfold one; rw [if_neg hne]⟩
theorem Sat.setCell {W w : World} {b : Nat} {cs : List Value} {t : TypeId} {L : List Asn} (H : Sat W w (blk b cs t :: L)) (k : Nat) (v : Value) : Sat W (w.setCell ⟨b, k, none⟩ v) (blk b (cs.set k v) t :: L) := by
  rw [setCell_eq_setRow w b k _ t (0, 0) v H.get]
  have := H.setRow (cs.set k v)
  simpa using this
theorem perm_set {α : Type} : ∀ (i : Nat) (L : List α) (a : α), i < L.length → (a :: L.eraseIdx i).Perm (L.set i a)
  | _, [], _, h => absurd h (by simp)
  | 0, b :: L, a, _ => by simp
  | i + 1, b :: L, a, h => by
    have ih := perm_set i L a (by simpa using h)
    simp only [List.eraseIdx_cons_succ, List.set_cons_succ]
    exact (List.Perm.swap _ _ _).trans (ih.cons b)
/-- The same, wherever the block stands in the list. -/
theorem Sat.setAt {W w : World} {b : Nat} {cs : List Value} {t : TypeId} {L : List Asn} (H : Sat W w L) (i : Nat) (hi : L[i]? = some (blk b cs t)) (k : Nat) (v : Value) : Sat W (w.setCell ⟨b, k, none⟩ v) (L.set i (blk b (cs.set k v) t)) := by
  have h1 := (H.mem_get i hi).setCell k v
  have hlt : i < L.length := by
    rcases Nat.lt_or_ge i L.length with h | h
    · exact h
    · simp [List.getElem?_eq_none h] at hi
  exact h1.perm (perm_set i L _ hlt)
theorem Sat.lt {W w : World} {b : Nat} {cs : List Value} {t : TypeId} {L : List Asn} (H : Sat W w L) (i : Nat) (hi : L[i]? = some (blk b cs t)) : b < w.heap.size :=
  (Array.getElem?_eq_some_iff.1 (H.mem_get i hi).get).1

/-! ### A row of the call's own: a slice that is nil, or stands at its block's head -/
def row (v : Value) (e : TypeId) (size n : Nat) (xs : List Value) : Asn := fun h =>
  xs.length = n * size ∧
  ((v = .slice none 0 0 ∧ n = 0 ∧ h = fun _ => none) ∨
   ∃ g cap cur, v = .slice (some ⟨g, 0, none⟩) n cap ∧ h = one g (.cells cur e (0, 0)) ∧ n ≤ cap ∧ cap ≤ maxLen ∧ cur.size = cap * size ∧ cur.toList.take (n * size) = xs)
theorem row_owns {W w : World} {v : Value} {e : TypeId} {size n : Nat} {xs : List Value} {L : List Asn} (H : Sat W w (row v e size n xs :: L)) : w.ownsRow 0 e size v n xs := by
  obtain ⟨m, ⟨hl, h⟩, hle, _⟩ := H.mem
  refine ⟨hl, ?_⟩
  rcases h with ⟨h1, h2, _⟩ | ⟨g, cap, cur, h1, rfl, h3, h4, h5, h6⟩
  · exact .inl ⟨h1, h2⟩
  · exact .inr ⟨g, cap, cur, h1, Nat.zero_le _, hle g _ (one_self g _), h3, h4, h5, h6⟩
theorem owns_row {w : World} {v : Value} {e : TypeId} {size n : Nat} {xs : List Value} (h : w.ownsRow 0 e size v n xs) :
    ∃ m, row v e size n xs m ∧ Hp.le m (hp w) ∧ ∀ k, m k ≠ none → v.ownBlock = some k := by
  obtain ⟨hl, h⟩ := h
  rcases h with ⟨rfl, rfl⟩ | ⟨g, cap, cur, rfl, _, hg, h3, h4, h5, h6⟩
  · exact ⟨fun _ => none, ⟨hl, .inl ⟨rfl, rfl, rfl⟩⟩, (fun k o e => by cases e), fun k h => absurd rfl h⟩
  · refine ⟨one g (.cells cur e (0, 0)), ⟨hl, .inr ⟨g, cap, cur, rfl, rfl, h3, h4, h5, h6⟩⟩, one_le hg, fun k h => ?_⟩
    unfold one at h
    split at h
    · rename_i hk; simp [Value.ownBlock, hk]
    · exact absurd rfl h
/-- Behind a law that ends in 'grownBy' and a new row. -/
theorem Sat.grown {W w w' : World} {v v' : Value} {e : TypeId} {size n n' : Nat} {xs xs' : List Value} {L : List Asn} (H : Sat W w (row v e size n xs :: L))
    (hg : w.grownBy w' v.ownBlock) (ho : w'.ownsRow 0 e size v' n' xs') (hb : ∀ k, v'.ownBlock = some k → v.ownBlock = some k ∨ w.heap.size ≤ k) : Sat W w' (row v' e size n' xs' :: L) :=
  H.step hg.os hg.tape hg.output fun m hm hl => by
    obtain ⟨m', hr, hl', hk'⟩ := owns_row ho
    refine ⟨m', hr, hl', fun k o hk hn => ?_⟩
    have hlt := (Array.getElem?_eq_some_iff.1 hk).1
    have hne : some k ≠ v.ownBlock := fun e => by
      rcases hm.2 with ⟨rfl, _⟩ | ⟨g, cap, cur, rfl, rfl, _⟩
      · simp [Value.ownBlock] at e
      · simp [Value.ownBlock] at e; subst e; rw [one_self] at hn; cases hn
    refine ⟨(hg.block k hlt hne).trans hk, ?_⟩
    cases h' : m' k with
    | none => rfl
    | some o' =>
      rcases hb k (hk' k (by rw [h']; simp)) with h | h
      · exact absurd h.symm hne
      · omega
end Go.Proofs.Ytmakdbkffeodlaa.Sl
