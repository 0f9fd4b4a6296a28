/-
  Plain laws of Resolve's model: bounds of levels; what an isolate hides; how deep embeddings go.
-/
import Derived.Test.YtmakdbkffeodlaaB1
namespace Go.Proofs.Ytmakdbkffeodlaa
open Go.RowKit Sl
set_option linter.unusedVariables false
set_option linter.unusedSimpArgs false
/-! ### Bounds -/
def Lo (base : Int) (s : St) : Prop := ∀ e ∈ s.st, base ≤ e.lv
theorem nextL_gt (lv : Int) (right : Bool) : lv < nextL lv right := by unfold nextL; split <;> omega
theorem Lo.one {base : Int} {k : Nat} {s : St} (hI : Inv base k s) (h : Lo base s) (x : Int) (r : List Int) : Lo base (oneS base x r s).1 := by
  obtain ⟨e, st, hs, _⟩ := hI.top
  have he := h e (by simp [hs])
  have push : ∀ (b : Bool) (f : Int) (i : Bool), ∀ q ∈ (⟨nextL e.lv b, f, i⟩ : Ent) :: s.st, base ≤ q.lv := by
    intro b f i q hq
    rcases List.mem_cons.1 hq with rfl | hq
    · have := nextL_gt e.lv b; simp only; omega
    · exact h q hq
  unfold oneS
  split
  · simp only [embedS, hs]
    split
    · rw [← hs]; exact push _ _ _
    · split
      · simp only [Lo]; rw [← hs]; exact h
      · exact h
  split
  · generalize (if x = 22 then dirGo 0 r else decide (x = 21)) = b
    simp only [beginS, hs]
    split
    · rw [← hs]; exact push _ _ _
    · simp only [Lo]; rw [← hs]; exact h
  split
  · unfold endS
    split
    · exact h
    · split
      · intro q hq; exact h q (cutS_mem hq)
      · exact h
  split
  · simp only [popS, hs]
    split
    · exact h
    split
    · simp only [Lo]; rw [← hs]; exact h
    split
    · intro q hq; exact h q (by rw [hs]; exact List.mem_cons_of_mem _ hq)
    · exact h
  split
  · exact h
  split <;> exact h
theorem Inv.topMem {base : Int} {k : Nat} {s : St} (h : Inv base k s) : topE s ∈ s.st := by
  obtain ⟨x, st, h1, h2⟩ := h.top
  rw [h2, h1]; simp
/-- What a place's level and type may be. -/
structure LevOk (base : Int) (x : Int) (q : Int × Int) : Prop where
  rem : remB x = true → q.1 = -1 ∧ q.2 = x
  lo : remB x = false → base ≤ q.1
  hi : remB x = false → q.1 ≤ 125
  ty : remB x = false → q.2 = x ∨ q.2 = 1 ∨ q.2 = 2
  sep : x = 11 → q.1 = base ∧ q.2 = x
theorem oneS_ok {base : Int} {k : Nat} {s : St} (hI : Inv base k s) (hL : Lo base s) (hb : base ≤ 125) (x : Int) (r : List Int) : LevOk base x (oneS base x r s).2 := by
  have tyo : ∀ e : Ent, tyOf e x = x ∨ tyOf e x = 1 ∨ tyOf e x = 2 := by intro e; unfold tyOf; split <;> (try split) <;> simp
  have ht := hI.topMem
  have h1 := hL _ ht
  have h2 := (hI.lo _ ht).2
  have hE := hI.end
  have ht' := hE.topMem
  have h1' : base ≤ (topE (endS s)).lv := by
    have := (Lo.one hI hL 23 []) (topE (endS s)) (by simpa [oneS] using ht')
    exact this
  have h2' := (hE.lo _ ht').2
  by_cases a1 : x = 17 ∨ x = 15 ∨ x = 18 ∨ x = 16
  · have hr : remB x = true := by rcases a1 with h | h | h | h <;> simp [remB, h]
    have e : (oneS base x r s).2 = (-1, x) := by unfold oneS; rw [if_pos a1]
    rw [e]
    exact ⟨fun _ => ⟨rfl, rfl⟩, by simp [hr], by simp [hr], by simp [hr], fun h => by omega⟩
  by_cases a2 : x = 21 ∨ x = 20 ∨ x = 22
  · have hr : remB x = false := by rcases a2 with h | h | h <;> simp [remB, h]
    have e : (oneS base x r s).2 = ((topE s).lv, tyOf (topE s) x) := by unfold oneS; rw [if_neg a1, if_pos a2]
    rw [e]
    exact ⟨by simp [hr], fun _ => h1, fun _ => h2, fun _ => tyo _, fun h => by omega⟩
  by_cases a3 : x = 23
  · have hr : remB x = false := by simp [remB, a3]
    have e : (oneS base x r s).2 = ((topE (endS s)).lv, tyOf (topE (endS s)) x) := by unfold oneS; rw [if_neg a1, if_neg a2, if_pos a3]
    rw [e]
    exact ⟨by simp [hr], fun _ => h1', fun _ => h2', fun _ => tyo _, fun h => by omega⟩
  by_cases a4 : x = 19
  · have hr : remB x = true := by simp [remB, a4]
    have e : (oneS base x r s).2 = (-1, x) := by unfold oneS; rw [if_neg a1, if_neg a2, if_neg a3, if_pos a4]
    rw [e]
    exact ⟨fun _ => ⟨rfl, rfl⟩, by simp [hr], by simp [hr], by simp [hr], fun h => by omega⟩
  by_cases a5 : x = 10
  · have hr : remB x = true := by simp [remB, a5]
    have e : (oneS base x r s).2 = (-1, x) := by unfold oneS; rw [if_neg a1, if_neg a2, if_neg a3, if_neg a4, if_pos a5]
    rw [e]
    exact ⟨fun _ => ⟨rfl, rfl⟩, by simp [hr], by simp [hr], by simp [hr], fun h => by omega⟩
  have hr : remB x = false := by simp [remB]; omega
  by_cases a6 : x = 11
  · have e : (oneS base x r s).2 = (base, x) := by unfold oneS; rw [if_neg a1, if_neg a2, if_neg a3, if_neg a4, if_neg a5, if_pos a6]
    rw [e]
    exact ⟨by simp [hr], fun _ => Int.le_refl _, fun _ => hb, fun _ => .inl rfl, fun _ => ⟨rfl, rfl⟩⟩
  · have e : (oneS base x r s).2 = ((topE s).lv, tyOf (topE s) x) := by unfold oneS; rw [if_neg a1, if_neg a2, if_neg a3, if_neg a4, if_neg a5, if_neg a6]
    rw [e]
    exact ⟨by simp [hr], fun _ => h1, fun _ => h2, fun _ => tyo _, fun h => absurd h a6⟩
theorem Lo.start (base : Int) : Lo base (st0 base) := by intro e he; simp [st0] at he; subst he; exact Int.le_refl _
theorem resF_ok {xs : List Int} {base : Int} (hb : base = 0 ∨ base = 1) {i : Nat} {x : Int} (hx : xs[i]? = some x) : ∃ q, (resF xs base)[i]? = some q ∧ LevOk base x q := by
  rw [resF_eq]
  obtain ⟨s', ⟨⟨k', hI'⟩, hL'⟩, h1, h2⟩ := resS_at base (fun s => (∃ k, Inv base k s) ∧ Lo base s) (fun x r s ⟨⟨k, h⟩, hl⟩ => ⟨⟨k + 1, h.one x r⟩, hl.one h x r⟩) xs (st0 base) ⟨⟨0, Inv.start hb⟩, Lo.start base⟩ i x hx
  exact ⟨_, h1, oneS_ok hI' hL' (by omega) x _⟩
theorem resF_length (xs : List Int) (base : Int) : (resF xs base).length = xs.length := by rw [resF_eq, resS_length]
/-! ### What an isolate hides -/
theorem isoN_ge (l : List Ent) : 0 ≤ isoN l := by simp [isoN]
def Shut (I : List Int) : Prop := ∀ x ∈ I, 1 ≤ x ∧ x ≤ 19 ∧ x ≠ 11
theorem dirGo_app {R R' : List Int} (h : ∀ n, dirGo n R = dirGo n R') : ∀ (A : List Int) (n : Nat), dirGo n (A ++ R) = dirGo n (A ++ R')
  | [], n => h n
  | x :: A, n => by
    simp only [List.cons_append, dirGo, dirGo_app h A]
theorem Shut.stB {I : List Int} {x : Int} (h : 1 ≤ x ∧ x ≤ 19 ∧ x ≠ 11) : stB x = false := by simp [Proofs.Ytmakdbkffeodlaa.stB]; omega
theorem dirGo_shut : ∀ {I : List Int}, Shut I → ∀ (n : Nat) (B : List Int), dirGo (n + 1) (I ++ 23 :: B) = dirGo n B
  | [], _, n, B => by simp [dirGo, stB]
  | x :: I, h, n, B => by
    have hx := h x (by simp)
    have h1 : Proofs.Ytmakdbkffeodlaa.stB x = false := Shut.stB (I := I) hx
    have h2 : x ≠ 23 := by omega
    simp only [List.cons_append, dirGo, h1, h2, Bool.false_eq_true, if_false, Nat.add_one_ne_zero, false_and]
    exact dirGo_shut (fun y hy => h y (by simp [hy])) n B
theorem resS_app (base : Int) {R R' : List Int} (h : ∀ n, dirGo n R = dirGo n R') : ∀ (A : List Int) (s : St) (k : Nat), Inv base k s → ∃ pre s' k', Inv base k' s' ∧ pre.length = A.length ∧ resS base (A ++ R) s = pre ++ resS base R s' ∧ resS base (A ++ R') s = pre ++ resS base R' s'
  | [], s, k, hI => ⟨[], s, k, hI, rfl, rfl, rfl⟩
  | x :: A, s, k, hI => by
    have e : oneS base x (A ++ R') s = oneS base x (A ++ R) s := by unfold oneS; rw [dirGo_app h A 0]
    obtain ⟨pre, s', k', h1, h2, h3, h4⟩ := resS_app base h A (oneS base x (A ++ R) s).1 (k + 1) (hI.one _ _)
    exact ⟨(oneS base x (A ++ R) s).2 :: pre, s', k', h1, by simp [h2], by simp [resS, h3], by simp [resS, e, h4]⟩
/-- The same but for what is inside the isolate. -/
structure Alike (s0 s : St) : Prop where
  over : s0.iso > 0 → s = s0
  iso : s.iso = s0.iso
  val : s.val = s0.val
  cut : cutS s.st = cutS s0.st
theorem Alike.refl (s : St) : Alike s s := ⟨fun _ => rfl, rfl, rfl, rfl⟩
theorem Alike.end {s0 s : St} (h : Alike s0 s) (hv : s0.iso > 0 ∨ s0.val > 0) : endS s = endS s0 := by
  by_cases ho : s0.iso > 0
  · rw [h.over ho]
  · have hv : s0.val > 0 := by omega
    unfold endS
    rw [h.iso, h.val, if_neg ho, if_neg ho, if_pos hv, if_pos hv, h.cut]
theorem Alike.one {base : Int} {s0 s : St} (h : Alike s0 s) (h0 : 0 ≤ s0.iso) {x : Int} (hx : 1 ≤ x ∧ x ≤ 19 ∧ x ≠ 11) (r : List Int) : Alike s0 (oneS base x r s).1 := by
  have hi := h.iso
  unfold oneS
  split
  · unfold embedS
    split
    · exact h
    · rename_i e st hs
      split
      · rename_i hb
        have : s.iso = 0 := by simp only [nextB, decide_eq_true_eq] at hb; exact hb.2.1
        refine ⟨fun ho => by omega, hi, h.val, ?_⟩
        rw [← h.cut, hs]
        simp [cutS]
      · split
        · exact ⟨fun ho => by omega, hi, h.val, h.cut⟩
        · exact h
  rw [if_neg (by omega), if_neg (by omega)]
  split
  · unfold popS
    split
    · exact h
    · rename_i e st hs
      split
      · exact h
      split
      · exact ⟨fun ho => by omega, hi, h.val, h.cut⟩
      split
      · rename_i h1 h2 h3
        refine ⟨fun ho => by omega, hi, h.val, ?_⟩
        have hx : e.iso = false := by cases hh : e.iso <;> simp_all
        rw [← h.cut, hs]
        simp [cutS, hx]
      · exact h
  split
  · exact h
  rw [if_neg (by omega)]
  exact h
theorem resS_shut (base : Int) {s0 : St} (h0 : 0 ≤ s0.iso) : ∀ {I : List Int}, Shut I → ∀ (R : List Int) (s : St), Alike s0 s → ∃ mid s', mid.length = I.length ∧ Alike s0 s' ∧ resS base (I ++ R) s = mid ++ resS base R s'
  | [], _, R, s, h => ⟨[], s, rfl, h, rfl⟩
  | x :: I, hI, R, s, h => by
    obtain ⟨mid, s', h1, h2, h3⟩ := resS_shut base h0 (I := I) (fun y hy => hI y (by simp [hy])) R _ (h.one (base := base) h0 (hI x (by simp)) (I ++ R))
    exact ⟨_ :: mid, s', by simp [h1], h2, by simp only [List.cons_append, resS]; rw [h3]⟩
theorem resS_iso (base : Int) {k : Nat} {s : St} (hI : Inv base k s) (B : List Int) : ∃ q q2 tail, ∀ I, Shut I → ∃ mid, mid.length = I.length ∧ resS base (21 :: (I ++ 23 :: B)) s = q :: (mid ++ q2 :: tail) ∧ tail.length = B.length := by
  obtain ⟨e, st, hs, _⟩ := hI.top
  have hb := hI.begin true
  have hv : (beginS s true).iso > 0 ∨ (beginS s true).val > 0 := by
    have h0 := hI.iso0
    have h1 : 0 ≤ s.val := by rw [hI.val]; exact isoN_ge _
    simp only [beginS, hs]
    split
    · right; simp only; omega
    · left; simp only; omega
  have e1 : ∀ r, oneS base 21 r s = (beginS s true, (topE s).lv, tyOf (topE s) 21) := by intro r; simp [oneS]
  refine ⟨((topE s).lv, tyOf (topE s) 21), ((topE (endS (beginS s true))).lv, tyOf (topE (endS (beginS s true))) 23), resS base B (endS (beginS s true)), fun I hI' => ?_⟩
  obtain ⟨mid, s', h1, h2, h3⟩ := resS_shut base hb.iso0 hI' (23 :: B) (beginS s true) (Alike.refl _)
  have e2 : oneS base 23 B s' = (endS s', (topE (endS s')).lv, tyOf (topE (endS s')) 23) := by simp [oneS]
  refine ⟨mid, h1, ?_, resS_length _ _ _⟩
  rw [resS, e1, h3, resS, e2, h2.end hv]
theorem resF_hides (base : Int) (hb : base = 0 ∨ base = 1) (A B : List Int) {I J : List Int} (hI : Shut I) (hJ : Shut J) :
    ∃ pre tail mid mid', pre.length = A.length + 1 ∧ tail.length = B.length + 1 ∧ mid.length = I.length ∧ mid'.length = J.length ∧ resF (A ++ 21 :: (I ++ 23 :: B)) base = pre ++ (mid ++ tail) ∧ resF (A ++ 21 :: (J ++ 23 :: B)) base = pre ++ (mid' ++ tail) := by
  have hd : ∀ n, dirGo n (21 :: (I ++ 23 :: B)) = dirGo n (21 :: (J ++ 23 :: B)) := by
    intro n
    have e : ∀ K, Shut K → dirGo n (21 :: (K ++ 23 :: B)) = dirGo n B := by
      intro K hK
      show (if stB 21 then dirGo (n + 1) (K ++ 23 :: B) else _) = _
      rw [if_pos (show stB 21 = true from rfl)]
      exact dirGo_shut hK n B
    rw [e I hI, e J hJ]
  obtain ⟨pre, s', k', h1, h2, h3, h4⟩ := resS_app base hd A (st0 base) 0 (Inv.start hb)
  obtain ⟨q, q2, tail, hq⟩ := resS_iso base h1 B
  obtain ⟨mid, m1, m2, m3⟩ := hq I hI
  obtain ⟨mid', n1, n2, n3⟩ := hq J hJ
  refine ⟨pre ++ [q], q2 :: tail, mid, mid', by simp [h2], by simp [m3], m1, n1, ?_, ?_⟩
  · rw [resF_eq, h3, m2]; simp
  · rw [resF_eq, h4, n2]; simp
/-! ### How deep embeddings go -/
/-- The law's own list of embeddings, and the level that they lead to. -/
def embs (T : Nat → Bool) : Nat → Nat → Int → List Int × Int
  | 0, _, lv => ([], lv)
  | k + 1, i, lv => if nextL lv (T i) > 125 then ((if T i then 17 else 15) :: List.replicate k 17, lv) else ((if T i then 17 else 15) :: (embs T k (i + 1) (nextL lv (T i))).1, (embs T k (i + 1) (nextL lv (T i))).2)
theorem embs_length (T : Nat → Bool) : ∀ (k i : Nat) (lv : Int), (embs T k i lv).1.length = k
  | 0, _, _ => rfl
  | k + 1, i, lv => by
    unfold embs
    split
    · simp
    · simp [embs_length T k]
def popN (base : Int) : Nat → St → St
  | 0, s => s
  | k + 1, s => popN base k (popS base s)
theorem popN_last (base : Int) : ∀ (k : Nat) (s : St), popN base (k + 1) s = popS base (popN base k s)
  | 0, s => rfl
  | k + 1, s => by rw [popN, popN_last base k]; rfl
theorem oneS_embed (base : Int) (b : Bool) (r : List Int) (s : St) : oneS base (if b then 17 else 15) r s = (embedS s (if b then 17 else 15), -1, (if b then 17 else 15)) := by cases b <;> simp [oneS]
theorem embR_of (b : Bool) : embR (if b then 17 else 15) = b := by cases b <;> simp [embR]
theorem embF_of (b : Bool) : embF (if b then 17 else 15) = 0 := by cases b <;> simp [embF]
theorem resS_over (base : Int) {e : Ent} {st : List Ent} : ∀ (k : Nat) (m : Int) (v : Int) (R : List Int), 0 < m → ∃ pre, pre.length = k ∧ resS base (List.replicate k 17 ++ R) ⟨e :: st, 0, m, v⟩ = pre ++ resS base R ⟨e :: st, 0, m + k, v⟩
  | 0, m, v, R, _ => ⟨[], rfl, by simp⟩
  | k + 1, m, v, R, hm => by
    obtain ⟨pre, h1, h2⟩ := resS_over base k (m + 1) v R (by omega)
    have e1 : oneS base 17 (List.replicate k 17 ++ R) ⟨e :: st, 0, m, v⟩ = (⟨e :: st, 0, m + 1, v⟩, -1, 17) := by
      have h := oneS_embed base true (List.replicate k 17 ++ R) ⟨e :: st, 0, m, v⟩
      simp only [if_true] at h
      rw [h]
      simp [embedS, nextB, embR]; omega
    refine ⟨(-1, 17) :: pre, by simp [h1], ?_⟩
    rw [List.replicate_succ, List.cons_append, resS, e1, h2]
    simp only [List.cons_append]
    congr 4
    push_cast; omega
theorem popN_over (base : Int) {e : Ent} {st : List Ent} : ∀ (k : Nat) (v : Int), popN base k ⟨e :: st, 0, k, v⟩ = ⟨e :: st, 0, 0, v⟩
  | 0, v => by simp [popN]
  | k + 1, v => by
    have : popS base ⟨e :: st, 0, ((k + 1 : Nat) : Int), v⟩ = ⟨e :: st, 0, k, v⟩ := by
      unfold popS
      simp only
      rw [if_neg (by omega), if_pos (by omega)]
      congr 1; omega
    rw [popN, this]
    exact popN_over base k v
theorem resS_deep (T : Nat → Bool) : ∀ (k i : Nat) (lv : Int) (f : Int) (st : List Ent) (R : List Int), 0 ≤ lv → lv ≤ 125 →
    ∃ pre s', pre.length = k ∧ resS 0 ((embs T k i lv).1 ++ R) ⟨⟨lv, f, false⟩ :: st, 0, 0, 0⟩ = pre ++ resS 0 R s' ∧ (topE s').lv = (embs T k i lv).2 ∧ popN 0 k s' = ⟨⟨lv, f, false⟩ :: st, 0, 0, 0⟩
  | 0, i, lv, f, st, R, h0, h1 => ⟨[], _, rfl, rfl, rfl, rfl⟩
  | k + 1, i, lv, f, st, R, h0, h1 => by
    by_cases hn : nextL lv (T i) > 125
    · have e1 : oneS 0 (if T i then 17 else 15) (List.replicate k 17 ++ R) ⟨⟨lv, f, false⟩ :: st, 0, 0, 0⟩ = (⟨⟨lv, f, false⟩ :: st, 0, 1, 0⟩, -1, (if T i then 17 else 15)) := by
        rw [oneS_embed]
        simp only [embedS, embR_of, nextB]
        rw [if_neg (by simp; omega)]
        simp
      obtain ⟨pre, h2, h3⟩ := resS_over 0 (e := ⟨lv, f, false⟩) (st := st) k 1 0 R (by omega)
      refine ⟨(-1, (if T i then 17 else 15)) :: pre, ⟨⟨lv, f, false⟩ :: st, 0, 1 + k, 0⟩, by simp [h2], ?_, ?_, ?_⟩
      · rw [embs, if_pos hn]
        simp only [List.cons_append]
        rw [resS, e1, h3]
      · rw [embs, if_pos hn]; rfl
      · have := popN_over 0 (e := ⟨lv, f, false⟩) (st := st) (k + 1) 0
        rw [← this]
        congr 2
        push_cast; omega
    · have h2 := nextL_gt lv (T i)
      have e1 : ∀ r, oneS 0 (if T i then 17 else 15) r ⟨⟨lv, f, false⟩ :: st, 0, 0, 0⟩ = (⟨⟨nextL lv (T i), 0, false⟩ :: ⟨lv, f, false⟩ :: st, 0, 0, 0⟩, -1, (if T i then 17 else 15)) := by
        intro r
        rw [oneS_embed]
        simp only [embedS, embR_of, embF_of, nextB]
        rw [if_pos (by simp; omega)]
      obtain ⟨pre, s', h3, h4, h5, h6⟩ := resS_deep T k (i + 1) (nextL lv (T i)) 0 (⟨lv, f, false⟩ :: st) R (by omega) (by omega)
      refine ⟨(-1, (if T i then 17 else 15)) :: pre, s', by simp [h3], ?_, ?_, ?_⟩
      · rw [embs, if_neg hn]
        simp only [List.cons_append]
        rw [resS, e1, h4]
      · rw [embs, if_neg hn]; exact h5
      · rw [popN_last, h6]
        have : ¬ (nextL lv (T i) = 0) := by omega
        simp [popS, this]
theorem resS_pops (base : Int) : ∀ (k : Nat) (s : St) (R : List Int), ∃ pre, pre.length = k ∧ resS base (List.replicate k 19 ++ R) s = pre ++ resS base R (popN base k s)
  | 0, s, R => ⟨[], rfl, rfl⟩
  | k + 1, s, R => by
    have e1 : ∀ r, oneS base 19 r s = (popS base s, -1, 19) := by intro r; simp [oneS]
    obtain ⟨pre, h1, h2⟩ := resS_pops base k (popS base s) R
    exact ⟨(-1, 19) :: pre, by simp [h1], by rw [List.replicate_succ, List.cons_append, resS, e1, h2]; rfl⟩
theorem resF_deep (T : Nat → Bool) (n : Nat) : ((resF ((embs T n 0 0).1 ++ 1 :: (List.replicate n 19 ++ [2])) 0).map (·.1))[n]? = some (embs T n 0 0).2 ∧ ((resF ((embs T n 0 0).1 ++ 1 :: (List.replicate n 19 ++ [2])) 0).map (·.1))[2 * n + 1]? = some 0 := by
  rw [resF_eq]
  obtain ⟨pre, s', h1, h2, h3, h4⟩ := resS_deep T n 0 0 0 [] (1 :: (List.replicate n 19 ++ [2])) (by omega) (by omega)
  have e1 : oneS 0 1 (List.replicate n 19 ++ [2]) s' = (s', (topE s').lv, tyOf (topE s') 1) := by simp [oneS]
  obtain ⟨pre', h5, h6⟩ := resS_pops 0 n s' [2]
  have e2 : oneS 0 2 [] ⟨[⟨0, 0, false⟩], 0, 0, 0⟩ = (⟨[⟨0, 0, false⟩], 0, 0, 0⟩, 0, 2) := by simp [oneS, topE, tyOf]
  have e3 : resS 0 ((embs T n 0 0).1 ++ 1 :: (List.replicate n 19 ++ [2])) (st0 0) = pre ++ ((topE s').lv, tyOf (topE s') 1) :: (pre' ++ [(0, 2)]) := by
    show resS 0 _ ⟨[⟨0, 0, false⟩], 0, 0, 0⟩ = _
    rw [h2, resS, e1, h6, h4, resS, e2]; rfl
  rw [e3]
  constructor
  · simp [← h1, h3]
  · rw [List.getElem?_map, List.getElem?_append_right (by omega), h1, show 2 * n + 1 - n = n + 1 by omega, List.getElem?_cons_succ, List.getElem?_append_right (by omega), h5]
    simp
end Go.Proofs.Ytmakdbkffeodlaa
