/-
  The walk's rules: what operations yield ('Yf'), what they do to memory ('Ef'), calls ('Ret'), a region in whatever order ('wpS'). No program of anybody's in it.
-/
import Derived.Test.YtmakdbkffeodlaaSr
set_option linter.unusedVariables false
set_option linter.unusedSimpArgs false
namespace Go.Proofs.Ytmakdbkffeodlaa.Sl
open Go Go.RowKit

/-- In every world that meets S the operation leaves v and does nothing else. -/
def Yf (P : Program) (S : World → Prop) (a : Act) (o : Oper) (v : Value) : Prop := ∀ w, S w → (execOp a.eval o).run P w = .ok (.value v) w
/-- The operation runs, and K holds behind it. -/
def Ef (P : Program) (a : Act) (o : Oper) (w : World) (K : Act → World → Prop) : Prop :=
  (∃ v w', (execOp a.eval o).run P w = .ok (.value v) w' ∧ K (a.put o.dst v) w') ∨ (∃ w', (execOp a.eval o).run P w = .ok .skip w' ∧ K (a.put o.dst undef) w')
/-- A call that returns. -/
def Ret (P : Program) (f : FuncId) (args : Array Value) (w : World) (R : Value → World → Prop) : Prop := Calls P f args w fun e w' => ∃ v, e = .returned v ∧ R v w'
/-- The operation is a call, or runs. -/
def Cf (P : Program) (a : Act) (o : Oper) (w : World) (K : Act → World → Prop) : Prop :=
  ∃ f args w1 R, (execOp a.eval o).run P w = .ok (.enter f args) w1 ∧ Ret P f args w1 R ∧ ∀ v w', R v w' → K (a.put o.dst v) w'

theorem Ret.mono {P : Program} {f : FuncId} {args : Array Value} {w : World} {R R' : Value → World → Prop} (h : Ret P f args w R) (hr : ∀ v w', R v w' → R' v w') : Ret P f args w R' :=
  Calls.mono h fun e w' ⟨v, he, h'⟩ => ⟨v, he, hr _ _ h'⟩

section
variable {P : Program} {ops : Array Oper} {Q : Exit → Act → World → Prop} {rest : List Oper} {o : Oper} {a : Act} {W w : World} {L : List Asn}

/-- One operation that is wanted, and what follows. -/
def wL1 (P : Program) (ops : Array Oper) (Q : Exit → Act → World → Prop) (rest : List Oper) (o : Oper) (a : Act) (w : World) : Prop := o.wp P a w (wpList P ops Q rest) Q
theorem wl_take (hw : Region.wanted o (yielded ops a.tmps) = true) (h : wL1 P ops Q rest o a w) : wpList P ops Q (o :: rest) a w := by
  unfold wpList
  rw [if_pos hw]
  exact .inl h
theorem l1_y {S : World → Prop} {v : Value} (hS : S w) (hy : Yf P S a o v) (h : wpList P ops Q rest (a.put o.dst v) w) : wL1 P ops Q rest o a w := by
  unfold wL1 Oper.wp
  rw [hy w hS]
  exact h
theorem l1_p {v : Value} (hy : Yf P (fun _ => True) a o v) (h : wpList P ops Q rest (a.put o.dst v) w) : wL1 P ops Q rest o a w := l1_y trivial hy h
theorem l1_ef (h : Ef P a o w (wpList P ops Q rest)) : wL1 P ops Q rest o a w := by
  unfold wL1 Oper.wp
  rcases h with ⟨v, w', hr, hk⟩ | ⟨w', hr, hk⟩ <;> (rw [hr]; exact hk)
theorem l1_cf (h : Cf P a o w (wpList P ops Q rest)) : wL1 P ops Q rest o a w := by
  unfold wL1 Oper.wp
  obtain ⟨f, args, w1, R, hr, hc, hk⟩ := h
  rw [hr]
  refine Calls.mono hc ?_
  rintro e w' ⟨v, rfl, hR⟩
  exact hk v w' hR
theorem wl_id (h : wpList P ops Q rest a w) : wpList P ops Q rest a w := h
theorem wl_yf {S : World → Prop} {v : Value} (hS : S w) (hgd : o.guard = none) (hy : Yf P S a o v) (h : wpList P ops Q rest (a.put o.dst v) w) : wpList P ops Q (o :: rest) a w :=
  wl_run hgd (hy w hS) h
theorem wl_yfg {S : World → Prop} {v : Value} (hS : S w) (hw : Region.wanted o (yielded ops a.tmps) = true) (hy : Yf P S a o v) (h : wpList P ops Q rest (a.put o.dst v) w) : wpList P ops Q (o :: rest) a w := by
  unfold wpList
  rw [if_pos hw]
  refine .inl ?_
  unfold Oper.wp
  rw [hy w hS]
  exact h
theorem wl_un (hw : Region.wanted o (yielded ops a.tmps) = false) (h : wpList P ops Q rest (a.put o.dst undef) w) : wpList P ops Q (o :: rest) a w := by
  unfold wpList
  rw [if_neg (by rw [hw]; simp)]
  exact h
theorem wl_ef (hw : Region.wanted o (yielded ops a.tmps) = true) (h : Ef P a o w (wpList P ops Q rest)) : wpList P ops Q (o :: rest) a w := by
  unfold wpList
  rw [if_pos hw]
  refine .inl ?_
  unfold Oper.wp
  rcases h with ⟨v, w', hr, hk⟩ | ⟨w', hr, hk⟩ <;> (rw [hr]; exact hk)
theorem wl_cf (hw : Region.wanted o (yielded ops a.tmps) = true) (h : Cf P a o w (wpList P ops Q rest)) : wpList P ops Q (o :: rest) a w := by
  unfold wpList
  rw [if_pos hw]
  refine .inl ?_
  unfold Oper.wp
  obtain ⟨f, args, w1, R, hr, hc, hk⟩ := h
  rw [hr]
  refine Calls.mono hc ?_
  rintro e w' ⟨v, rfl, hR⟩
  exact hk v w' hR

/-! ### A region in whatever order -/
/-- The order in which the proof goes: (number, true): it may be taken whenever; (number, false): it comes now. -/
def wpS (P : Program) (ops : Array Oper) (Q : Exit → Act → World → Prop) (S : World → Prop) : List (Nat × Bool) → Act → World → Prop
  | [], a, w => Q .normal a w
  | (i, true) :: l, a, w => ∃ o v, ops[i]? = some o ∧ YieldsIf P ops S o v a ∧ wpS P ops Q S l (a.put o.dst v) w
  | (i, false) :: l, a, w => wpOp P ops Q i (fun a' w' => S w' ∧ wpS P ops Q S l a' w') a w
def okOrd (ops : Array Oper) : Array Bool → List (Nat × Bool) → Bool
  | listed, [] => (Region.ready .any ops listed).isEmpty
  | listed, (i, true) :: l => Region.free .any ops listed i && (Region.ready .any ops listed).contains i && okOrd ops (listed.setIfInBounds i true) l
  | listed, (i, false) :: l => (Region.ready .any ops listed == [i]) && okOrd ops (listed.setIfInBounds i true) l
theorem wpAnyH_of_S {S : World → Prop} (hs : Region.noSelect ops = true) (hQ : ∀ d v c a w, Q (.panic c) (a.put d v) w → Q (.panic c) a w) :
    ∀ (l : List (Nat × Bool)) (fuel : Nat) (listed : Array Bool) (a : Act) (w : World), l.length ≤ fuel → okOrd ops listed l = true → S w → wpS P ops Q S l a w → wpAnyH P .any ops Q S fuel listed a w
  | [], fuel, listed, a, w, _, hok, _, h => wpAnyH_done (by simpa [okOrd] using hok) h fuel
  | (i, true) :: l, 0, _, _, _, hl, _, _, _ => absurd hl (by simp)
  | (i, false) :: l, 0, _, _, _, hl, _, _, _ => absurd hl (by simp)
  | (i, true) :: l, fuel + 1, listed, a, w, hl, hok, hS, h => by
    obtain ⟨o, v, ho, hy, hr⟩ := h
    simp only [okOrd, Bool.and_eq_true] at hok
    exact wpAnyH_take ho hs hok.1.1 hok.1.2 (fun c a w => hQ o.dst v c a w) hy hS (wpAnyH_of_S hs hQ l fuel _ _ _ (by simpa using hl) hok.2 hS hr)
  | (i, false) :: l, fuel + 1, listed, a, w, hl, hok, hS, h => by
    simp only [okOrd, Bool.and_eq_true, beq_iff_eq] at hok
    refine wpAnyH_all hok.1 (by simp) fun j hj => ?_
    obtain rfl : j = i := by simpa using hj
    exact wpOp_mono (fun a' w' h' => ⟨h'.1, wpAnyH_of_S hs hQ l fuel _ _ _ (by simpa using hl) hok.2 h'.1 h'.2⟩) h
theorem wp_region_S {id : Nat} (S : World → Prop) (ord : List (Nat × Bool)) (hm : P.follows .mixedOrders = true) (hs : Region.noSelect ops = true) (hlen : ord.length ≤ ops.size)
    (hok : okOrd ops (Array.replicate ops.size false) ord = true) (hS : S w.drew) (h : wpS P ops (NoPanic Q) S ord a w.drew) : (Code.region id ops true).wp P Q a w :=
  wp_region_noPanic (wp_region_held hm (wpAnyH_of_S hs (fun _ _ _ _ _ h => h) ord _ _ _ _ hlen hok hS h))

theorem ws_nil {S : World → Prop} (h : Q .normal a w) : wpS P ops (NoPanic Q) S [] a w := h
theorem ws_yf {S : World → Prop} {i : Nat} {l : List (Nat × Bool)} {v : Value} (ho' : ops.toList[i]? = some o) (hw : Region.wanted o (yielded ops a.tmps) = true) (hy : Yf P S a o v) (h : wpS P ops Q S l (a.put o.dst v) w) : wpS P ops Q S ((i, true) :: l) a w :=
  ⟨o, v, by simpa using ho', .inl ⟨hw, hy⟩, h⟩
theorem ws_un {S : World → Prop} {i : Nat} {l : List (Nat × Bool)} (ho' : ops.toList[i]? = some o) (hw : Region.wanted o (yielded ops a.tmps) = false) (h : wpS P ops Q S l (a.put o.dst undef) w) : wpS P ops Q S ((i, true) :: l) a w :=
  ⟨o, undef, by simpa using ho', .inr ⟨hw, rfl⟩, h⟩
theorem ws_unf {S : World → Prop} {i : Nat} {l : List (Nat × Bool)} (ho' : ops.toList[i]? = some o) (hw : Region.wanted o (yielded ops a.tmps) = false) (hS : S w) (h : wpS P ops Q S l (a.put o.dst undef) w) : wpS P ops Q S ((i, false) :: l) a w := by
  have ho : ops[i]? = some o := by simpa using ho'
  unfold wpS wpOp
  simp only [ho]
  rw [if_neg (by rw [hw]; simp)]
  exact ⟨hS, h⟩
theorem ws_ef {S : World → Prop} {i : Nat} {l : List (Nat × Bool)} (ho' : ops.toList[i]? = some o) (hw : Region.wanted o (yielded ops a.tmps) = true) (h : Ef P a o w (fun a' w' => S w' ∧ wpS P ops Q S l a' w')) : wpS P ops Q S ((i, false) :: l) a w := by
  have ho : ops[i]? = some o := by simpa using ho'
  unfold wpS wpOp
  simp only [ho]
  rw [if_pos hw]
  refine .inl ?_
  unfold Oper.wp
  rcases h with ⟨v, w', hr, hk⟩ | ⟨w', hr, hk⟩ <;> (rw [hr]; exact hk)
theorem ws_cf {S : World → Prop} {i : Nat} {l : List (Nat × Bool)} (ho' : ops.toList[i]? = some o) (hw : Region.wanted o (yielded ops a.tmps) = true) (h : Cf P a o w (fun a' w' => S w' ∧ wpS P ops Q S l a' w')) : wpS P ops Q S ((i, false) :: l) a w := by
  have ho : ops[i]? = some o := by simpa using ho'
  unfold wpS wpOp
  simp only [ho]
  rw [if_pos hw]
  refine .inl ?_
  unfold Oper.wp
  obtain ⟨f, args, w1, R, hr, hc, hk⟩ := h
  rw [hr]
  refine Calls.mono hc ?_
  rintro e w' ⟨v, rfl, hR⟩
  exact hk v w' hR

/-! ### Operands, looked up -/
def evl (a : Act) : Operand → Option Value
  | .tmp t => a.tmps.toList[t]?
  | .const v => some v
  | .global g => some (.pointer (some ⟨g, 0, none⟩))
  | .func f => some (.func (.func f) #[] #[])
theorem evl_spec {a : Act} {x : Operand} {v : Value} (h : evl a x = some v) : a.eval x = v := by
  cases x with
  | tmp t => simp only [evl] at h; simp only [Act.eval]; rw [Array.getElem?_toList] at h; rw [Array.getD_eq_getD_getElem?, h]; rfl
  | const v => simpa [evl, Act.eval] using h
  | global g => simpa [evl, Act.eval] using h
  | func f => simpa [evl, Act.eval] using h
def evls (a : Act) : List Operand → Option (List Value)
  | [] => some []
  | x :: l => match evl a x, evls a l with | some v, some vs => some (v :: vs) | _, _ => none
theorem evls_spec {a : Act} : ∀ {l : List Operand} {vs : List Value}, evls a l = some vs → l.map a.eval = vs
  | [], _, h => by simp [evls] at h; simp [h]
  | x :: l, vs, h => by
    unfold evls at h
    split at h
    · rename_i v vs' h1 h2
      cases h
      simp [evl_spec h1, evls_spec h2]
    · cases h
def evlp (a : Act) : List (Nat × Operand) → Option (List (Nat × Value))
  | [] => some []
  | (i, x) :: l => match evl a x, evlp a l with | some v, some vs => some ((i, v) :: vs) | _, _ => none
theorem evlp_spec {a : Act} : ∀ {l : List (Nat × Operand)} {vs : List (Nat × Value)}, evlp a l = some vs → (l.map fun (i, x) => (i, a.eval x)) = vs
  | [], _, h => by simp [evlp] at h; simp [h]
  | (i, x) :: l, vs, h => by
    unfold evlp at h
    split at h
    · rename_i v vs' h1 h2
      cases h
      simp [evl_spec h1, ← evlp_spec h2]
    · cases h

/-! ### What operations yield -/
variable {S : World → Prop} {v : Value}
def szOf (P : Program) (t : TypeId) : Option Nat := (P.info? t).map (·.size)
def aggB (P : Program) (t : TypeId) : Option Bool := match P.underlying t with | some (.struct _) => some true | some (.array _ _) => some true | some _ => some false | none => none
def zeroOf (P : Program) (t : TypeId) : Option Value := (P.info? t).bind (·.zero)
def fieldOff (P : Program) (s : TypeId) (f : Nat) : Option (TypeId × Nat) := match P.underlying s with
  | some (.struct fs) => (fs[f]?).map fun fd => (fd.type, fd.offset)
  | _ => none
theorem run_sz {t n : Nat} (h : szOf P t = some n) (w : World) : (sizeOf t).run P w = .ok n w := by
  unfold szOf at h
  cases hi : P.info? t with
  | none => simp [hi] at h
  | some i => simp [hi] at h; subst h; simp [sizeOf, typeInfo, hi]
theorem run_agg {t : Nat} {b : Bool} (h : aggB P t = some b) (w : World) : (isAgg t).run P w = .ok b w := by
  unfold aggB at h
  cases hu : P.underlying t with
  | none => simp [hu] at h
  | some d =>
    rw [hu] at h
    unfold isAgg
    rw [Sem.run_bind, run_underlying hu w]
    cases d <;> simp_all
theorem run_zero {t : Nat} {z : Value} (h : zeroOf P t = some z) (w : World) : (zeroValue t).run P w = .ok z w := by
  unfold zeroOf at h
  cases hi : P.info? t with
  | none => simp [hi] at h
  | some i => simp [hi] at h; simp [zeroValue, typeInfo, hi, h]

class Sz (P : Program) (t : Nat) (n : outParam Nat) : Prop where out : szOf P t = some n
class Ag (P : Program) (t : Nat) (b : outParam Bool) : Prop where out : aggB P t = some b
class Fo (P : Program) (s f : Nat) (t off : outParam Nat) : Prop where out : fieldOff P s f = some (t, off)
class Zo (P : Program) (t : Nat) (z : outParam Value) : Prop where out : zeroOf P t = some z
/-- A struct each of whose fields is one cell. -/
def flatN (P : Program) (t : TypeId) : Option Nat :=
  match P.info? t, P.underlying t with
  | some it, some (.struct fields) =>
    match it.zero, fields.toList.mapM (fun f => (P.info? f.type).map fun i => (f.offset, i.size)) with
    | some z, some places => if places = (List.range places.length).map (fun i => (i, 1)) ∧ z.cells.size = places.length then some places.length else none
    | _, _ => none
  | _, _ => none
class Fl (P : Program) (t : Nat) (n : outParam Nat) : Prop where out : flatN P t = some n
class Inf (P : Program) (e : Nat) (z : outParam Value) (size bytes : outParam Nat) : Prop where out : (P.info? e).map (fun i => (i.zero, i.size, i.bytes)) = some (some z, size, bytes)
theorem y_move (x : Operand) (ho : o.op = .move x) (hx' : evl a x = some (v)) : Yf P S a o v := fun w _ => by
  have hx := evl_spec hx'
  unfold execOp; simp only [ho, hx]; rfl
theorem y_assign (x : Operand) (ho : o.op = .assign x) (hx' : evl a x = some (v)) : Yf P S a o v := fun w _ => by
  have hx := evl_spec hx'
  unfold execOp; simp only [ho, hx]; rfl
theorem y_nil (x : Operand) (ho : o.op = .nilCheck x) {ad : Addr} (hx' : evl a x = some (.pointer (some ad))) : Yf P S a o (.pointer (some ad)) := fun w _ => by
  have hx := evl_spec hx'
  unfold execOp; simp only [ho, hx]; rfl
theorem y_extract (x : Operand) (i : Nat) (ho : o.op = .extract x i) {vs : Array Value} (hx' : evl a x = some (.tuple vs)) (hv' : vs.toList[i]? = some v) : Yf P S a o v := fun w _ => by
  have hx := evl_spec hx'
  have hv : vs[i]? = some v := by simpa using hv'
 
  unfold execOp; simp only [ho, hx, Instr.extract, hv]; rfl
theorem y_pickT {c x y : Operand} (ho : o.op = .pick c x y) (hc' : evl a c = some (.bool true)) (hx' : evl a x = some v) : Yf P S a o v := fun w _ => by
  have hc := evl_spec hc'; have hx := evl_spec hx'
  unfold execOp
  simp only [ho, hc, hx]
  rfl
theorem y_pickF {c x y : Operand} (ho : o.op = .pick c x y) (hc' : evl a c = some (.bool false)) (hx' : evl a y = some v) : Yf P S a o v := fun w _ => by
  have hc := evl_spec hc'; have hx := evl_spec hx'
  unfold execOp
  simp only [ho, hc, hx]
  rfl
theorem y_pickAnd {c x y : Operand} (ho : o.op = .pick c x y) {b m : Bool} (hc' : evl a c = some (.bool b)) (hx' : evl a x = some (.bool m)) (hy' : evl a y = some (.bool false)) : Yf P S a o (.bool (b && m)) := fun w _ => by
  have hc := evl_spec hc'; have hx := evl_spec hx'; have hy := evl_spec hy'
  unfold execOp
  simp only [ho, hc, hx, hy]
  cases b <;> rfl
theorem y_pickOr {c x y : Operand} (ho : o.op = .pick c x y) {b m : Bool} (hc' : evl a c = some (.bool b)) (hx' : evl a x = some (.bool true)) (hy' : evl a y = some (.bool m)) : Yf P S a o (.bool (b || m)) := fun w _ => by
  have hc := evl_spec hc'; have hx := evl_spec hx'; have hy := evl_spec hy'
  unfold execOp
  simp only [ho, hc, hx, hy]
  cases b <;> rfl
theorem y_fieldAddr (s : TypeId) (x : Operand) (f : Nat) (ho : o.op = .fieldAddr s x f) {b k : Nat} (hx' : evl a x = some (.pointer (some ⟨b, k, none⟩))) {t off n : Nat} (hf : fieldOff P s f = some (t, off)) (hz : szOf P t = some (n + 1)) :
    Yf P S a o (.pointer (some ⟨b, k + off, none⟩)) := fun w _ => by
  have hx := evl_spec hx'
 
  unfold fieldOff at hf
  cases hu : P.underlying s with
  | none => simp [hu] at hf
  | some d =>
    cases d <;> simp [hu] at hf
    rename_i fs
    obtain ⟨fd, hfd, rfl, rfl⟩ := hf
    have hfd' : fs[f]? = some fd := by simpa using hfd
    unfold execOp
    simp [ho, hx, Instr.fieldAt, run_underlying hu, hfd', Instr.sureAddr, fieldPlace, run_sz hz, add_lit]
theorem y_field1 (s : TypeId) (x : Operand) (f : Nat) (ho : o.op = .field s x f) {cs : Array Value} (hx' : evl a x = some (.agg cs)) {t off : Nat} (hf : fieldOff P s f = some (t, off)) (hg : aggB P t = some false) (hv' : cs.toList[off]? = some v) :
    Yf P S a o v := fun w _ => by
  have hx := evl_spec hx'
  have hv : cs[off]? = some v := by simpa using hv'
 
  unfold fieldOff at hf
  cases hu : P.underlying s with
  | none => simp [hu] at hf
  | some d =>
    cases d <;> simp [hu] at hf
    rename_i fs
    obtain ⟨fd, hfd, rfl, rfl⟩ := hf
    have hfd' : fs[f]? = some fd := by simpa using hfd
    unfold execOp
    simp [ho, hx, Instr.field, run_underlying hu, hfd', asAgg, part, run_agg hg, hv]
theorem y_fieldN (s : TypeId) (x : Operand) (f : Nat) (ho : o.op = .field s x f) {cs : Array Value} (hx' : evl a x = some (.agg cs)) {t off n : Nat} (hf : fieldOff P s f = some (t, off)) (hg : aggB P t = some true) (hn : szOf P t = some n) :
    Yf P S a o (.agg (cs.extract off (off + n))) := fun w _ => by
  have hx := evl_spec hx'
 
  unfold fieldOff at hf
  cases hu : P.underlying s with
  | none => simp [hu] at hf
  | some d =>
    cases d <;> simp [hu] at hf
    rename_i fs
    obtain ⟨fd, hfd, rfl, rfl⟩ := hf
    have hfd' : fs[f]? = some fd := by simpa using hfd
    unfold execOp
    simp [ho, hx, Instr.field, run_underlying hu, hfd', asAgg, part, run_agg hg, run_sz hn]
def sliceElem (P : Program) (t : TypeId) : Option TypeId := match P.underlying t with | some (.slice e) => some e | _ => none
theorem sliceElem_spec {t e : Nat} (h : sliceElem P t = some e) : P.underlying t = some (.slice e) := by
  unfold sliceElem at h; split at h
  · cases h; assumption
  · cases h
class Se (P : Program) (t : Nat) (e : outParam Nat) : Prop where out : sliceElem P t = some e
def arrElem (P : Program) (t : TypeId) : Option (Nat × TypeId) := match P.underlying t with | some (.array n e) => some (n, e) | _ => none
theorem arrElem_spec {t n e : Nat} (h : arrElem P t = some (n, e)) : P.underlying t = some (.array n e) := by
  unfold arrElem at h; split at h
  · cases h; assumption
  · cases h
class Ae (P : Program) (t : Nat) (n e : outParam Nat) : Prop where out : arrElem P t = some (n, e)
theorem y_len (x : Operand) (t : TypeId) (ho : o.op = .call { callee := .builtin .len, args := #[x], argTypes := #[t] }) {p : Option Addr} {n c : Nat} (hx' : evl a x = some (.slice p n c)) {e : Nat} (ht : sliceElem P t = some e) :
    Yf P S a o (.int .i64 (n : Int)) := fun w _ => by
  have hx := evl_spec hx'
 
  unfold execOp
  simp [ho, resolve, invoke, builtin, hx, Builtin.len_, run_underlying (sliceElem_spec ht), goInt]
def isStr (P : Program) (t : TypeId) : Bool := match P.underlying t with | some .string => true | _ => false
theorem isStr_spec {t : Nat} (h : isStr P t = true) : P.underlying t = some .string := by
  unfold isStr at h; split at h
  · assumption
  · cases h
theorem y_lenS (x : Operand) (t : TypeId) (ho : o.op = .call { callee := .builtin .len, args := #[x], argTypes := #[t] }) {s : ByteArray} (hx' : evl a x = some (.string s)) (ht : isStr P t = true) :
    Yf P S a o (.int .i64 (s.size : Int)) := fun w _ => by
  have hx := evl_spec hx'
 
  unfold execOp
  simp [ho, resolve, invoke, builtin, hx, Builtin.len_, run_underlying (isStr_spec ht), goInt]
theorem y_index (t : TypeId) (x ix : Operand) (ho : o.op = .indexAddr t x ix) {g k n c : Nat} (hx' : evl a x = some (.slice (some ⟨g, k, none⟩) n c)) {kk : IntKind} {i : Int} (hi' : evl a ix = some (.int kk i)) {e size : Nat} (ht : sliceElem P t = some e) (he : szOf P e = some size)
    (h0 : 0 ≤ i) (h1 : i < (n : Int)) : Yf P S a o (.pointer (some ⟨g, k + i.toNat * size, none⟩)) := fun w _ => by
  have hx := evl_spec hx'; have hi := evl_spec hi'
 
  unfold execOp
  simp [ho, hx, hi, Instr.indexAt, asIntOf, run_underlying (sliceElem_spec ht), run_sz he, h0, h1, add_lit]
theorem y_indexA (t : TypeId) (x ix : Operand) (ho : o.op = .indexAddr t x ix) {g k : Nat} (hx' : evl a x = some (.pointer (some ⟨g, k, none⟩))) {kk : IntKind} {i : Int} (hi' : evl a ix = some (.int kk i)) {n e size : Nat} (ht : arrElem P t = some (n, e)) (he : szOf P e = some size)
    (h0 : 0 ≤ i) (h1 : i < (n : Int)) : Yf P S a o (.pointer (some ⟨g, k + i.toNat * size, none⟩)) := fun w _ => by
  have hx := evl_spec hx'; have hi := evl_spec hi'
 
  unfold execOp
  simp [ho, hx, hi, Instr.indexAt, asIntOf, run_underlying (arrElem_spec ht), run_sz he, h0, h1, add_lit, Instr.sureAddr]
theorem eqGuard_int {op : BinOp} {t : TypeId} {x y : Operand} {k k' : IntKind} {m n : Int} (w : World) : (eqGuard op t x y (.int k m) (.int k' n)).run P w = .ok () w := by
  unfold eqGuard; cases op <;> rfl
theorem y_add (t : TypeId) (x y : Operand) (t2 : TypeId) (ho : o.op = .binOp .add t x y t2) {k : IntKind} {m n r : Int} (hx' : evl a x = some (.int k m)) (hy' : evl a y = some (.int k n)) (hr : k.wrap (m + n) = r) : Yf P S a o (.int k r) := fun w _ => by
  have hx := evl_spec hx'; have hy := evl_spec hy'
 
  subst hr
  unfold execOp; simp [ho, hx, hy, eqGuard_int, binOp, Op.intArith]
theorem y_sub (t : TypeId) (x y : Operand) (t2 : TypeId) (ho : o.op = .binOp .sub t x y t2) {k : IntKind} {m n r : Int} (hx' : evl a x = some (.int k m)) (hy' : evl a y = some (.int k n)) (hr : k.wrap (m - n) = r) : Yf P S a o (.int k r) := fun w _ => by
  have hx := evl_spec hx'; have hy := evl_spec hy'
 
  subst hr
  unfold execOp; simp [ho, hx, hy, eqGuard_int, binOp, Op.intArith]
theorem y_mul (t : TypeId) (x y : Operand) (t2 : TypeId) (ho : o.op = .binOp .mul t x y t2) {k : IntKind} {m n r : Int} (hx' : evl a x = some (.int k m)) (hy' : evl a y = some (.int k n)) (hr : k.wrap (m * n) = r) : Yf P S a o (.int k r) := fun w _ => by
  have hx := evl_spec hx'; have hy := evl_spec hy'
 
  subst hr
  unfold execOp; simp [ho, hx, hy, eqGuard_int, binOp, Op.intArith]
theorem y_quo (t : TypeId) (x y : Operand) (t2 : TypeId) (ho : o.op = .binOp .quo t x y t2) {k : IntKind} {m n r : Int} (hx' : evl a x = some (.int k m)) (hy' : evl a y = some (.int k n)) (h0 : n ≠ 0) (hr : k.wrap (m.tdiv n) = r) : Yf P S a o (.int k r) := fun w _ => by
  have hx := evl_spec hx'; have hy := evl_spec hy'
 
  subst hr
  unfold execOp; simp [ho, hx, hy, eqGuard_int, binOp, Op.intDiv, h0]
theorem y_rem (t : TypeId) (x y : Operand) (t2 : TypeId) (ho : o.op = .binOp .rem t x y t2) {k : IntKind} {m n r : Int} (hx' : evl a x = some (.int k m)) (hy' : evl a y = some (.int k n)) (h0 : n ≠ 0) (hr : m.tmod n = r) : Yf P S a o (.int k r) := fun w _ => by
  have hx := evl_spec hx'; have hy := evl_spec hy'
 
  subst hr
  unfold execOp; simp [ho, hx, hy, eqGuard_int, binOp, Op.intDiv, h0]
def cmpI : BinOp → Int → Int → Option Bool
  | .eql, x, y => some (x == y)
  | .neq, x, y => some (x != y)
  | .lss, x, y => some (decide (x < y))
  | .leq, x, y => some (decide (x ≤ y))
  | .gtr, x, y => some (decide (x > y))
  | .geq, x, y => some (decide (x ≥ y))
  | _, _, _ => none
theorem y_cmp (op : BinOp) (t : TypeId) (x y : Operand) (t2 : TypeId) (ho : o.op = .binOp op t x y t2) {k : IntKind} {m n : Int} (hx' : evl a x = some (.int k m)) (hy' : evl a y = some (.int k n)) {b : Bool} (hb : cmpI op m n = some b) : Yf P S a o (.bool b) := fun w _ => by
  have hx := evl_spec hx'; have hy := evl_spec hy'
 
  unfold execOp
  cases op <;> simp [cmpI] at hb <;> simp [ho, hx, hy, eqGuard_int, binOp, Op.intCmp, hb]
theorem cmp_eq_t {m n : Int} (h : m = n) : cmpI .eql m n = some true := by simp [cmpI, h]
theorem cmp_eq_f {m n : Int} (h : m ≠ n) : cmpI .eql m n = some false := by simp [cmpI, h]
theorem cmp_ne_t {m n : Int} (h : m ≠ n) : cmpI .neq m n = some true := by simp [cmpI, h]
theorem cmp_ne_f {m n : Int} (h : m = n) : cmpI .neq m n = some false := by simp [cmpI, h]
theorem cmp_lt_t {m n : Int} (h : m < n) : cmpI .lss m n = some true := by simp [cmpI, h]
theorem cmp_lt_f {m n : Int} (h : n ≤ m) : cmpI .lss m n = some false := by simp [cmpI, h]
theorem cmp_le_t {m n : Int} (h : m ≤ n) : cmpI .leq m n = some true := by simp [cmpI, h]
theorem cmp_le_f {m n : Int} (h : n < m) : cmpI .leq m n = some false := by simp [cmpI, h]
theorem cmp_gt_t {m n : Int} (h : n < m) : cmpI .gtr m n = some true := by simp [cmpI, h]
theorem cmp_gt_f {m n : Int} (h : m ≤ n) : cmpI .gtr m n = some false := by simp [cmpI, h]
theorem cmp_ge_t {m n : Int} (h : n ≤ m) : cmpI .geq m n = some true := by simp [cmpI, h]
theorem cmp_ge_f {m n : Int} (h : m < n) : cmpI .geq m n = some false := by simp [cmpI, h]
def isBoolT (P : Program) (t : TypeId) : Bool := match P.underlying t with | some .bool => true | _ => false
theorem isBoolT_spec {t : Nat} (h : isBoolT P t = true) : P.underlying t = some .bool := by
  unfold isBoolT at h; split at h
  · assumption
  · cases h
theorem run_equalB (d : Nat) {t : TypeId} (ht : P.underlying t = some .bool) (m n : Bool) (w : World) : (Op.equalIn (d + 1) t (.bool m) (.bool n)).run P w = .ok (m == n) w := by
  simp [Op.equalIn, run_underlying ht]
theorem run_eqlB {t : TypeId} (ht : P.underlying t = some .bool) (m n : Bool) (w : World) : (binOp .eql t (.bool m) (.bool n)).run P w = .ok (.bool (m == n)) w := by
  simp only [binOp]
  simp [Op.equal, Op.maxDepth, run_equalB 9999 ht]
theorem run_neqB {t : TypeId} (ht : P.underlying t = some .bool) (m n : Bool) (w : World) : (binOp .neq t (.bool m) (.bool n)).run P w = .ok (.bool (!(m == n))) w := by
  simp only [binOp]
  simp [Op.equal, Op.maxDepth, run_equalB 9999 ht]
theorem y_eqB (t : TypeId) (x y : Operand) (t2 : TypeId) (ho : o.op = .binOp .eql t x y t2) {m n r : Bool} (hx' : evl a x = some (.bool m)) (hy' : evl a y = some (.bool n)) (ht : isBoolT P t = true) (hr : (m == n) = r) : Yf P S a o (.bool r) := fun w _ => by
  have hx := evl_spec hx'; have hy := evl_spec hy'
 
  subst hr
  unfold execOp
  simp only [ho, hx, hy, Sem.run_bind, run_eqlB (isBoolT_spec ht)]
  rfl
theorem y_neB (t : TypeId) (x y : Operand) (t2 : TypeId) (ho : o.op = .binOp .neq t x y t2) {m n r : Bool} (hx' : evl a x = some (.bool m)) (hy' : evl a y = some (.bool n)) (ht : isBoolT P t = true) (hr : (!(m == n)) = r) : Yf P S a o (.bool r) := fun w _ => by
  have hx := evl_spec hx'; have hy := evl_spec hy'
 
  subst hr
  unfold execOp
  simp only [ho, hx, hy, Sem.run_bind, run_neqB (isBoolT_spec ht)]
  rfl
theorem y_not (t : TypeId) (x : Operand) (ho : o.op = .unOp .not t x) {m r : Bool} (hx' : evl a x = some (.bool m)) (hr : (!m) = r) : Yf P S a o (.bool r) := fun w _ => by
  have hx := evl_spec hx'
 
  subst hr
  unfold execOp; simp [ho, hx, Op.unary]
theorem y_neg (t : TypeId) (x : Operand) (ho : o.op = .unOp .neg t x) {k : IntKind} {m r : Int} (hx' : evl a x = some (.int k m)) (hr : k.wrap (0 - m) = r) : Yf P S a o (.int k r) := fun w _ => by
  have hx := evl_spec hx'
 
  subst hr
  unfold execOp; simp [ho, hx, Op.unary, Op.intArith]
def intK (P : Program) (t : TypeId) : Option IntKind := match P.underlying t with | some (.int k) => some k | _ => none
theorem intK_spec {t : Nat} {k : IntKind} (h : intK P t = some k) : P.underlying t = some (.int k) := by
  unfold intK at h; split at h
  · cases h; assumption
  · cases h
class Ik (P : Program) (t : Nat) (k : outParam IntKind) : Prop where out : intK P t = some k
theorem y_conv (src dst : TypeId) (x : Operand) (ho : o.op = .convert src dst x) {k0 k1 k : IntKind} {m r : Int} (hx' : evl a x = some (.int k0 m)) (hs : intK P src = some k1) (hd : intK P dst = some k) (hr : k.wrap m = r) : Yf P S a o (.int k r) := fun w _ => by
  have hx := evl_spec hx'
 
  subst hr
  unfold execOp; simp [ho, hx, convert, run_underlying (intK_spec hs), run_underlying (intK_spec hd), Conv.intToInt]
theorem y_build (t : TypeId) (parts : Array (Nat × Operand)) (ho : o.op = .build t parts) {vs : List (Nat × Value)} (hp' : evlp a parts.toList = some vs) {cells : Array Value} (hb : P.built t vs = some cells) : Yf P S a o (.agg cells) := fun w _ => by
  have hp : (parts.map fun (i, x) => (i, a.eval x)) = vs.toArray := by
    rw [← evlp_spec hp']; apply Array.ext'; simp
  unfold execOp
  simp only [ho, Sem.run_bind, hp, run_build w t _ cells hb, Result.andThen_ok]
  rfl
theorem y_func (fn : Fn) (first captured : Array Operand) (ho : o.op = .makeFunc fn first captured) {fs cs : List Value} (hf : evls a first.toList = some fs) (hc : evls a captured.toList = some cs) : Yf P S a o (.func fn fs.toArray cs.toArray) := fun w _ => by
  have hf' : first.map a.eval = fs.toArray := by rw [← evls_spec hf]; apply Array.ext'; simp
  have hc' : captured.map a.eval = cs.toArray := by rw [← evls_spec hc]; apply Array.ext'; simp
  rw [← hf', ← hc']
  unfold execOp; simp [ho, Instr.makeFunc]

/-! ### Loads -/
theorem y_load1 (i : Nat) (ty : TypeId) (x : Operand) (ho : o.op = .load ty x) {b k : Nat} (hx' : evl a x = some (.pointer (some ⟨b, k, none⟩)))
    {cs : List Value} {t : TypeId} (hi : L[i]? = some (blk b cs t)) (hagg : aggB P ty = some false) (hv : cs[k]? = some v) : Yf P (fun w => Sat W w L) a o v := by
  have hx := evl_spec hx'
  exact fun w H => run_load1 ty x ho hx (run_agg hagg w) (H.cell i hi k hv)
theorem y_loadN (i : Nat) (ty : TypeId) (x : Operand) (ho : o.op = .load ty x) {b k : Nat} (hx' : evl a x = some (.pointer (some ⟨b, k, none⟩)))
    {cs : List Value} {t : TypeId} (hi : L[i]? = some (blk b cs t)) (hagg : aggB P ty = some true) {n : Nat} (hn : szOf P ty = some n) (hk : k + n ≤ cs.length) : Yf P (fun w => Sat W w L) a o (.agg ((cs.drop k).take n).toArray) := by
  have hx := evl_spec hx'
  exact fun w H => run_loadN ty x ho hx (run_agg hagg w) (run_sz hn w) (by simp; omega) (fun j v hv => H.cell i hi (k + j) (by
    rw [List.getElem?_take] at hv; split at hv
    · rwa [List.getElem?_drop] at hv
    · cases hv))
theorem y_rowLoad1 (i : Nat) (ty : TypeId) (x : Operand) (ho : o.op = .load ty x) {g j n cap size : Nat} {e : TypeId} {xs : List Value} (hx' : evl a x = some (.pointer (some ⟨g, j, none⟩)))
    (hi : L[i]? = some (row (.slice (some ⟨g, 0, none⟩) n cap) e size n xs)) (hagg : aggB P ty = some false) (hv : xs[j]? = some v) : Yf P (fun w => Sat W w L) a o v := by
  have hx := evl_spec hx'
  exact fun w H => run_load1 ty x ho hx (run_agg hagg w) (H.rowCell i hi j hv)
theorem y_rowLoadN (i : Nat) (ty : TypeId) (x : Operand) (ho : o.op = .load ty x) {g j n cap size : Nat} {e : TypeId} {xs : List Value} (hx' : evl a x = some (.pointer (some ⟨g, j, none⟩)))
    (hi : L[i]? = some (row (.slice (some ⟨g, 0, none⟩) n cap) e size n xs)) (hagg : aggB P ty = some true) {m : Nat} (hn : szOf P ty = some m) {cs : List Value} (hl : cs.length = m) (hc : ∀ q v, cs[q]? = some v → xs[j + q]? = some v) : Yf P (fun w => Sat W w L) a o (.agg cs.toArray) := by
  have hx := evl_spec hx'
  exact fun w H => run_loadN ty x ho hx (run_agg hagg w) (run_sz hn w) hl (fun q v hv => H.rowCell i hi (j + q) (hc q v hv))
theorem y_rowLoadN' (i j : Nat) (ty : TypeId) (x : Operand) (ho : o.op = .load ty x) {g j' n cap size : Nat} {e : TypeId} {xs : List Value} (hx' : evl a x = some (.pointer (some ⟨g, j', none⟩))) (hj : j' = j)
    (hi : L[i]? = some (row (.slice (some ⟨g, 0, none⟩) n cap) e size n xs)) (hagg : aggB P ty = some true) {m : Nat} (hn : szOf P ty = some m) {cs : List Value} (hl : cs.length = m) (hc : ∀ q v, cs[q]? = some v → xs[j + q]? = some v) : Yf P (fun w => Sat W w L) a o (.agg cs.toArray) := by
  subst hj
  exact y_rowLoadN i ty x ho hx' hi hagg hn hl hc
theorem y_rowLoad1' (i j : Nat) (ty : TypeId) (x : Operand) (ho : o.op = .load ty x) {g j' n cap size : Nat} {e : TypeId} {xs : List Value} (hx' : evl a x = some (.pointer (some ⟨g, j', none⟩))) (hj : j' = j)
    (hi : L[i]? = some (row (.slice (some ⟨g, 0, none⟩) n cap) e size n xs)) (hagg : aggB P ty = some false) (hv : xs[j]? = some v) : Yf P (fun w => Sat W w L) a o v := by
  subst hj
  exact y_rowLoad1 i ty x ho hx' hi hagg hv
/-- A load of a cell of which the assertions speak in whatever way. -/
theorem y_loadC (ty : TypeId) (x : Operand) (ho : o.op = .load ty x) {b k : Nat} (hx' : evl a x = some (.pointer (some ⟨b, k, none⟩))) (hagg : aggB P ty = some false) (hc : ∀ w, S w → w.cell? ⟨b, k, none⟩ = some v) : Yf P S a o v := by
  have hx := evl_spec hx'
  exact fun w H => run_load1 ty x ho hx (run_agg hagg w) (hc w H)

/-! ### What turns memory -/
variable {K : Act → World → Prop}
theorem e_store1 (H : Sat W w L) (i : Nat) (ty : TypeId) (x y : Operand) (ho : o.op = .store ty x y) {b k : Nat} (hx' : evl a x = some (.pointer (some ⟨b, k, none⟩))) (hy' : evl a y = some (v))
    {cs : List Value} {t : TypeId} (hi : L[i]? = some (blk b cs t)) (h1 : v.oneCell' = true) (hn : szOf P ty = some 1) (hk : k < cs.length)
    (h : ∀ w', Sat W w' (L.set i (blk b (cs.set k v) t)) → K (a.put o.dst undef) w') : Ef P a o w K := by
  have hx := evl_spec hx'; have hy := evl_spec hy'
  exact .inr ⟨_, run_store1 ty x y ho hx hy h1 (run_sz hn w) (H.cell i hi k (List.getElem?_eq_getElem hk)) (H.free i hi k), h _ (H.setAt i hi k v)⟩
theorem lt_of_at {α : Type} {i : Nat} {x : α} {L : List α} (hi : L[i]? = some x) : i < L.length := by
  rcases Nat.lt_or_ge i L.length with h | h
  · exact h
  · simp [List.getElem?_eq_none h] at hi
theorem e_storeN (H : Sat W w L) (i : Nat) (ty : TypeId) (x y : Operand) (ho : o.op = .store ty x y) {b k : Nat} (hx' : evl a x = some (.pointer (some ⟨b, k, none⟩))) {vs : Array Value} (hy' : evl a y = some (.agg vs))
    {cs : List Value} {t : TypeId} (hi : L[i]? = some (blk b cs t)) {n : Nat} (hn : szOf P ty = some n) (hvn : vs.size = n) (h1 : ∀ v ∈ vs.toList, v.oneCell' = true) (hk : k + n ≤ cs.length)
    (h : ∀ w', Sat W w' (L.set i (blk b (cs.take k ++ vs.toList ++ cs.drop (k + n)) t)) → K (a.put o.dst undef) w') : Ef P a o w K := by
  have hx := evl_spec hx'; have hy := evl_spec hy'
  exact have hm := H.mem_get i hi
  .inr ⟨_, run_storeN ty x y ho hx hy h1 (run_sz hn w) hvn hm.get hk, h _ ((hm.setRow _).perm (perm_set i L _ (lt_of_at hi)))⟩
theorem e_rowStore1 (H : Sat W w L) (i : Nat) (ty : TypeId) (x y : Operand) (ho : o.op = .store ty x y) {g j n cap size : Nat} {e : TypeId} {xs : List Value} (hx' : evl a x = some (.pointer (some ⟨g, j, none⟩))) (hy' : evl a y = some (v))
    (hi : L[i]? = some (row (.slice (some ⟨g, 0, none⟩) n cap) e size n xs)) (h1 : v.oneCell' = true) (hn : szOf P ty = some 1) (hj : j < xs.length)
    (h : ∀ w', Sat W w' (L.set i (row (.slice (some ⟨g, 0, none⟩) n cap) e size n (xs.set j v))) → K (a.put o.dst undef) w') : Ef P a o w K := by
  have hx := evl_spec hx'; have hy := evl_spec hy'
  exact .inr ⟨_, run_store1 ty x y ho hx hy h1 (run_sz hn w) (H.rowCell i hi j (List.getElem?_eq_getElem hj)) (H.rowFree i hi j), h _ (H.rowSet i hi j v)⟩
theorem e_alloc (H : Sat W w L) (ty : TypeId) (ho : o.op = .alloc ty) {z : Value} (hz : zeroOf P ty = some z)
    (h : ∀ b w', Sat W w' (blk b z.cells.toList ty :: L) → K (a.put o.dst (.pointer (some ⟨b, 0, none⟩))) w') : Ef P a o w K := by
  have hA := H.alloc z.cells.toList ty
  rw [Array.toArray_toList] at hA
  refine .inl ⟨.pointer (some ⟨w.heap.size, 0, none⟩), w.alloc (.cells z.cells ty), ?_, h _ _ hA⟩
  unfold execOp
  simp only [ho, Instr.alloc, Sem.run_bind, run_zero hz, Result.andThen_ok, Sem.run_pure]
  rfl
theorem e_box (H : Sat W w L) (ty : TypeId) (x : Operand) (ho : o.op = .box ty x) (hx' : evl a x = some (v))
    (h : ∀ b w', Sat W w' (blk b v.cells.toList ty :: L) → K (a.put o.dst (.pointer (some ⟨b, 0, none⟩))) w') : Ef P a o w K := by
  have hx := evl_spec hx'
  have hA := H.alloc v.cells.toList ty
  rw [Array.toArray_toList] at hA
  refine .inl ⟨.pointer (some ⟨w.heap.size, 0, none⟩), w.alloc (.cells v.cells ty), ?_, h _ _ hA⟩
  unfold execOp
  simp only [ho, hx, Instr.box]
  rfl
/-- The cells of a slice literal. -/
def builtS (P : Program) (t : TypeId) (len : Nat) (parts : List (Nat × Value)) : Option (List Value) :=
  match P.underlying t with
  | some (.slice e) => match P.info? e with
    | some ie => match ie.zero with
      | some z => if len * ie.size > 2 ^ 24 then none else
        if len * ie.size = 0 then none else (Instr.fill (fun i => some (i * ie.size, ie.size)) ((Array.range (len * ie.size)).map (z.cells[· % z.cells.size]!)) parts).map (·.toList)
      | none => none
    | none => none
  | _ => none
theorem run_buildSlice {t len : Nat} {parts : Array (Nat × Value)} {cs : List Value} (h : builtS P t len parts.toList = some cs) {e : Nat} (he : sliceElem P t = some e) (w : World) :
    (Instr.buildSlice t len parts).run P w = .ok (.slice (some ⟨w.heap.size, 0, none⟩) len len) (w.alloc (.cells cs.toArray e)) := by
  have hu := sliceElem_spec he
  unfold builtS at h
  rw [hu] at h
  cases hi : P.info? e with
  | none => simp [hi] at h
  | some ie =>
    cases hz : ie.zero with
    | none => simp [hi, hz] at h
    | some z =>
      simp only [hi, hz] at h
      split at h
      · cases h
      · rename_i h24
        split at h
        · cases h
        · rename_i h0
          simp only [Option.map_eq_some_iff] at h
          obtain ⟨cells, hf, rfl⟩ := h
          have hzv : (zeroValue e).run P w = .ok z w := by simp [zeroValue, typeInfo, hi, hz]
          have hsz : (sizeOf e).run P w = .ok ie.size w := by simp [sizeOf, typeInfo, hi]
          simp only [Instr.buildSlice, Sem.run_bind, run_underlying hu, Result.andThen_ok, hsz, h24, if_false, h0, hzv, Sem.run_pure, hf, Array.toArray_toList]
          rfl
theorem e_buildSlice (H : Sat W w L) (t : TypeId) (n : Nat) (parts : Array (Nat × Operand)) (ho : o.op = .buildSlice t n parts) {vs : List (Nat × Value)} (hp' : evlp a parts.toList = some vs)
    {cs : List Value} (hb : builtS P t n vs = some cs) {e size : Nat} (he : sliceElem P t = some e) (hsz : szOf P e = some size) (hl : cs.length = n * size) (hm : n ≤ 1000000)
    (h : ∀ g w', Sat W w' (row (.slice (some ⟨g, 0, none⟩) n n) e size n cs :: L) → K (a.put o.dst (.slice (some ⟨g, 0, none⟩) n n)) w') : Ef P a o w K := by
  have hp : (parts.map fun (i, x) => (i, a.eval x)) = vs.toArray := by
    rw [← evlp_spec hp']; apply Array.ext'; simp
  refine .inl ⟨_, _, ?_, h _ _ (row_mk H cs e size n hl (by simp only [maxLen]; omega))⟩
  unfold execOp
  simp only [ho, hp, Sem.run_bind, run_buildSlice (parts := vs.toArray) (by simpa using hb) he w, Result.andThen_ok]
  rfl
theorem e_make (H : Sat W w L) (t : TypeId) (x y : Operand) (ho : o.op = .makeSlice t x y) {kl kc : IntKind} {n : Nat} (hx' : evl a x = some (.int kl (n : Int))) (hy' : evl a y = some (.int kc (n : Int)))
    {e : TypeId} {z : Value} {size bytes : Nat} (ht : sliceElem P t = some e) (hi : (P.info? e).map (fun i => (i.zero, i.size, i.bytes)) = some (some z, size, bytes)) (hzs : z.cells.size = size)
    (hb : bytes * n ≤ 281474976710656) (hm : n ≤ maxLen)
    (h : ∀ g w', Sat W w' (row (.slice (some ⟨g, 0, none⟩) n n) e size n (madeCells z.cells (n * size)).toList :: L) → K (a.put o.dst (.slice (some ⟨g, 0, none⟩) n n)) w') : Ef P a o w K := by
  have hx := evl_spec hx'; have hy := evl_spec hy'
  obtain ⟨i0, hi0, hz0, hz1, hz2⟩ := info_parts hi
  have hb' : (i0.bytes : Int) * (n : Int) ≤ 281474976710656 := by
    rw [hz2]
    have h : ((bytes * n : Nat) : Int) ≤ 281474976710656 := by omega
    rwa [Int.natCast_mul] at h
  have hm' : (n : Int) ≤ 9223372036854775807 := by
    have h := hm
    simp only [maxLen] at h
    omega
  have hr := run_make (P := P) w t e i0 z (sliceElem_spec ht) hi0 hz0 kl kc n n (by omega) (Int.le_refl _) hb' hm'
  simp only [Int.toNat_natCast] at hr
  rw [hz1] at hr
  have hA := row_mk H (madeCells z.cells (n * size)).toList e size n (by simp [size_madeCells]) hm
  rw [Array.toArray_toList] at hA
  refine .inl ⟨_, _, ?_, h _ _ hA⟩
  unfold execOp
  simp only [ho, hx, hy, Sem.run_bind, hr, Result.andThen_ok, Sem.run_pure]
theorem e_append {n size bytes : Nat} {e t : TypeId} {z : Value} {xs : List Value} (H : Sat W w L) (i : Nat) (s x : Operand)
    (ho : o.op = .call { callee := .builtin .append, args := #[s, x], argTypes := #[t, t] }) (hs' : evl a s = some (v)) (hi : L[i]? = some (row v e size n xs)) (ht : sliceElem P t = some e) (hinf : (P.info? e).map (fun i => (i.zero, i.size, i.bytes)) = some (some z, size, bytes))
    (hzs : z.cells.size = size) (hsz : 0 < size) {src : Value} (hx' : evl a x = some (src)) {m : Nat} {news : List Value} (hl : news.length = m * size)
    (hsrc : (src = .slice none 0 0 ∧ m = 0) ∨ ∃ ad c, src = .slice (some ad) m c ∧ ∀ j u, news[j]? = some u → w.cell? (ad.add j) = some u) (h1 : ∀ u ∈ news, u.oneCell' = true)
    (h63 : n + m ≤ maxLen) (hbytes : (n + m) * bytes ≤ 140737488355328)
    (h : ∀ v' w', Sat W w' (L.set i (row v' e size (n + m) (xs ++ news))) → K (a.put o.dst v') w') : Ef P a o w K := by
  have hs := evl_spec hs'; have hx := evl_spec hx'
  obtain ⟨v', w', hr, hS⟩ := run_app (H.mem_get i hi) s x ho (sliceElem_spec ht) hinf hzs hsz hs hx hl hsrc h1 h63 hbytes
  exact .inl ⟨v', w', hr, h v' w' (hS.perm (perm_set i L _ (lt_of_at hi)))⟩
/-- A row as what is appended. -/
theorem Sat.src {n size : Nat} {e : TypeId} {xs : List Value} (H : Sat W w L) (i : Nat) (hi : L[i]? = some (row v e size n xs)) :
    (v = .slice none 0 0 ∧ n = 0) ∨ ∃ ad c, v = .slice (some ad) n c ∧ ∀ j u, xs[j]? = some u → w.cell? (ad.add j) = some u := by
  rcases (row_owns (H.mem_get i hi)).2 with ⟨h1, h2⟩ | ⟨g, cap, cur, h1, _, hg, _⟩
  · exact .inl ⟨h1, h2⟩
  · refine .inr ⟨⟨g, 0, none⟩, cap, h1, fun j u hu => ?_⟩
    subst h1
    exact (row_owns (H.mem_get i hi)).cells (g := g) rfl j u hu

/-! ### Calls -/
class Cl (P : Program) (f : Nat) : Prop where out : ∀ vs w, (callFunc f vs).run P w = .ok (.enter f vs) w
theorem c_call {f : FuncId} {args : Array Operand} {ts : Array TypeId} (ho : o.op = .call { callee := .value (.func f), args := args, argTypes := ts }) {vs : List Value} (hv' : evls a args.toList = some vs)
    [he : Cl P f] {R : Value → World → Prop} (hc : Ret P f vs.toArray w R) (h : ∀ v w', R v w' → K (a.put o.dst v) w') : Cf P a o w K := by
  have hv : args.map a.eval = vs.toArray := by rw [← evls_spec hv']; apply Array.ext'; simp
  refine ⟨f, vs.toArray, w, R, ?_, hc, h⟩
  unfold execOp
  simp [ho, resolve, Act.eval, Deferred.ofValue, invoke, hv, he.out]
end
theorem quo_in {m n : Int} (h0 : 0 ≤ m) (h1 : 0 < n) (h2 : m ≤ 9223372036854775807) : IntKind.i64.wrap (m.tdiv n) = m / n := by
  rw [Int.tdiv_eq_ediv_of_nonneg h0]
  have h := Int.ediv_le_self n h0
  have h' := Int.ediv_nonneg h0 (Int.le_of_lt h1)
  exact IntWalk.i64_in _ (by omega)
def mask {α : Type} : List Bool → List α → List α
  | [], l => l
  | _ :: _, [] => []
  | true :: m, a :: l => a :: mask m l
  | false :: m, _ :: l => mask m l
theorem big_mask : ∀ (m : List Bool) (L : List Asn) {h : Hp}, big L h → big (mask m L) h
  | [], _, _, H => H
  | true :: _, [], _, _ => trivial
  | false :: _, [], _, _ => trivial
  | true :: m, _ :: l, _, H => big_cons_mono (fun _ H => big_mask m l H) H
  | false :: m, _ :: l, _, H => big_mask m l (big_drop H)
theorem Sat.mask {W w : World} {L : List Asn} (H : Sat W w L) (m : List Bool) : Sat W w (Sl.mask m L) := ⟨H.os, H.tape, H.output, big_mask m L H.mem⟩
attribute [irreducible] wL1 wpS
end Go.Proofs.Ytmakdbkffeodlaa.Sl
