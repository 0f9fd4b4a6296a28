/-
  Loads of structs by what is known of their cells; results of a cell and a temporary; what a longer list of assertions says of a shorter one. No program of anybody's in it.
-/
import Derived.Test.YtmakdbkffeodlaaRn
set_option linter.unusedVariables false
namespace Go.Proofs.Ytmakdbkffeodlaa.Sl
open Go Go.RowKit
section
variable {P : Program} {ops : Array Oper} {Q : Exit → Act → World → Prop} {o : Oper} {a : Act} {W w : World} {L M : List Asn} {S : World → Prop} {v : Value} {fn : Func}
/-- A load of an array or a struct whose cells are known in whatever way. -/
theorem y_loadNC {cs : List Value} (ty : TypeId) (x : Operand) (ho : o.op = .load ty x) {b k off : Nat} (hx' : evl a x = some (.pointer (some ⟨b, off, none⟩))) (hoff : off = k) (hagg : aggB P ty = some true) {n : Nat} (hn : szOf P ty = some n) (hl : cs.length = n) (hc : ∀ w, S w → ∀ q v, cs[q]? = some v → w.cell? ⟨b, k + q, none⟩ = some v) : Yf P S a o (.agg cs.toArray) := by
  subst hoff
  have hx := evl_spec hx'
  exact fun w H => run_loadN ty x ho hx (run_agg hagg w) (run_sz hn w) hl (fun q v hv => hc w H q v hv)
theorem run_loadVar_N {ty : TypeId} {b n : Nat} {cs : List Value} {t : TypeId} (H : Sat W w L) (i : Nat) (hi : L[i]? = some (blk b cs t)) (hagg : aggB P ty = some true) (hn : szOf P ty = some n) (hl : cs.length = n) : (loadVar ty ⟨b, 0, none⟩).run P w = .ok (.agg cs.toArray) w := run_loadVar_blk H i hi hagg hn hl
/-- 'return x, y', x's cell a struct's. -/
theorem retCellT {R : Value → World → Prop} {p ty u : Nat} {b n t : Nat} {cs : List Value} {v' : Value} (H : Sat W w L) (i : Nat) (hf : fn.results = #[.cell p ty, .tmp u]) (hp : evl a (.tmp p) = some (.pointer (some ⟨b, 0, none⟩))) (hu : evl a (.tmp u) = some v') (hi : L[i]? = some (blk b cs t)) (hagg : aggB P ty = some true) (hn : szOf P ty = some n)
    (hl : cs.length = n) (hd : a.defers = []) (h : R (.tuple #[.agg cs.toArray, v']) w) : bodyPost P fn (fun e w' => ∃ v, e = .returned v ∧ R v w') .ret a w := by
  refine bodyPost_ret (v := .tuple #[.agg cs.toArray, v']) ?_ hd ⟨_, rfl, h⟩
  have hp' : a.tmps.getD p undef = .pointer (some ⟨b, 0, none⟩) := getD_of_evl hp
  have hp2 : a.tmps[p]?.getD undef = .pointer (some ⟨b, 0, none⟩) := by simpa using hp'
  have hu' : a.tmps.getD u undef = v' := getD_of_evl hu
  have hu2 : a.tmps[u]?.getD undef = v' := by simpa using hu'
  simp [results, hf, hp2, hu2, asAddr, run_loadVar_blk H i hi hagg hn hl]
end
/-- What M says, L says. -/
def Ext (W : World) (M L : List Asn) : Prop := ∀ w, Sat W w M → Sat W w L
theorem Ext.refl (W : World) (L : List Asn) : Ext W L L := fun _ h => h
theorem Ext.trans {W : World} {A B C : List Asn} (h : Ext W A B) (k : Ext W B C) : Ext W A C := fun w x => k w (h w x)
theorem Ext.cons (W : World) (A : Asn) (L : List Asn) : Ext W (A :: L) L := fun _ h => h.drop
theorem Rd.ext {W : World} {M L : List Asn} {u : Value} {xs : List Int} (h : Rd W L u xs) (e : Ext W M L) : Rd W M u xs := by
  obtain ⟨p, c, h1, h2, h3⟩ := h
  refine ⟨p, c, h1, h2, fun hp => ?_⟩
  obtain ⟨g, k, h4, h5⟩ := h3 hp
  exact ⟨g, k, h4, fun j x w hx H => h5 j x w hx (e w H)⟩
theorem Rn.ext {W : World} {M L : List Asn} {u : Value} {xs : List Int} (h : Rn W L u xs) (e : Ext W M L) : Rn W M u xs := ⟨h.rd.ext e, h.nil⟩
theorem Ext.app (W : World) : ∀ (N L : List Asn), Ext W (N ++ L) L
  | [], L => Ext.refl W L
  | A :: N, L => fun w h => Ext.app W N L w h.drop
theorem perm_shift {α : Type} : ∀ (N X L : List α), (N ++ (X ++ L)).Perm (X ++ (N ++ L))
  | [], X, L => List.Perm.refl _
  | a :: N, X, L => ((perm_shift N X L).cons a).trans (List.perm_middle (l₁ := X) (l₂ := N ++ L) (a := a)).symm
theorem Sat.midApp {W w : World} {N X L : List Asn} (H : Sat W w (N ++ (X ++ L))) : Sat W w (N ++ L) := Ext.app W X (N ++ L) w (H.perm (perm_shift N X L))
theorem Sat.into {W w : World} {A : Asn} {N L : List Asn} (H : Sat W w (A :: (N ++ L))) : Sat W w (N ++ (A :: L)) := H.perm List.perm_middle.symm
theorem Sat.mid {W w : World} {A : Asn} : ∀ {N L : List Asn}, Sat W w (A :: (N ++ L)) → Sat W w (A :: L)
  | [], _, H => H
  | B :: N, L, H => Sat.mid (N := N) (H.up 1).drop
end Go.Proofs.Ytmakdbkffeodlaa.Sl
