/-
  The walks of isolate.Base and explicit.right.
-/
import Derived.Test.YtmakdbkffeodlaaA2
namespace Go.Proofs.Ytmakdbkffeodlaa
open Go.RowKit Sl
set_option linter.unusedVariables false
set_option linter.unusedSimpArgs false
set_option maxRecDepth 100000
attribute [local irreducible] blk row old wpList Ret
variable {W w : World} {L : List Asn}
/-- 'isolate.Base': the direction of the first strong one that lies in no isolate (n: how many are open). -/
def baseGo : List Int → Int → Int
  | [], _ => 0
  | x :: r, n =>
    if stB x then baseGo r (n + 1)
    else if x = 23 then baseGo r (if n - 1 > 0 then n - 1 else 0)
    else if x = 1 then (if n = 0 then 0 else baseGo r n)
    else if x = 2 ∨ x = 3 then (if n = 0 then 1 else baseGo r n)
    else baseGo r n
set_option maxHeartbeats 4000000 in
theorem base_spec (H : Sat W w L) {u : Value} {xs : List Int} (hu : Rd W L u xs) (hm : xs.length ≤ 1000000000) (i j : Nat) (hij : i ≤ j) (hj : j ≤ xs.length) :
    Ret Try.prog 52 #[u, .int .i64 i, .int .i64 j] w fun v w' => v = .tuple #[.int .i64 (baseGo ((xs.take j).drop i) 0), .int .i64 0] ∧ Sat W w' L := by
  obtain ⟨p, c, rfl, hc, hp⟩ := hu
  (unfold Ret; go_enter Try.func52, Try.ntmps52)
  (repeat' (first | ((with_reducible (refine wl_id ?_)); (first | (with_reducible (refine wpList_nil ?_)) | ((refine wl_g rfl ?_); (first | (with_reducible (refine wg_f ?_)) | ((with_reducible (refine wg_t ?_)); (first | ((with_reducible (refine kd_move ?_)); (first | refine l1_p (y_move _ rfl rfl) ?_)) | ((with_reducible (refine kd_assign ?_)); (first | refine l1_p (y_assign _ rfl rfl) ?_)) | ((with_reducible (refine kd_pick ?_)); (first | refine l1_p (y_pickT rfl rfl rfl) ?_ | refine l1_p (y_pickF rfl rfl rfl) ?_ | refine l1_p (y_pickAnd rfl rfl rfl rfl) ?_ | refine l1_p (y_pickOr rfl rfl rfl rfl) ?_)) | ((with_reducible (refine kd_binOp ?_)); (first | refine l1_p (y_cmp _ _ _ _ _ rfl rfl rfl (by first | exact cmp_eq_t (by omega) | exact cmp_eq_f (by omega) | exact cmp_lt_t (by omega) | exact cmp_lt_f (by omega) | exact cmp_gt_t (by omega) | exact cmp_gt_f (by omega) | rfl)) ?_ | refine l1_p (y_add _ _ _ _ rfl rfl rfl (by first | exact IntWalk.i64_in _ (by omega) | exact IntWalk.u8_in _ (by omega) | exact IntWalk.u32_in _ (by omega) | rfl)) ?_ | refine l1_p (y_sub _ _ _ _ rfl rfl rfl (by first | exact IntWalk.i64_in _ (by omega) | exact IntWalk.u8_in _ (by omega) | exact IntWalk.u32_in _ (by omega) | rfl)) ?_ | refine l1_p (y_eqB _ _ _ _ rfl rfl rfl rfl rfl) ?_)) | ((with_reducible (refine kd_call ?_)); (first | refine l1_p (y_len _ _ rfl rfl Se.out) ?_ | refine l1_p (y_lenS _ _ rfl rfl rfl) ?_ | refine l1_p (y_max2 _ _ _ rfl rfl rfl rfl) ?_)) | ((with_reducible (refine kd_indexAddr ?_)); (first | refine l1_p (y_index _ _ _ rfl rfl rfl Se.out Sz.out (by omega) (by omega)) ?_ | refine l1_p (y_indexA _ _ _ rfl rfl rfl Ae.out Sz.out (by omega) (by omega)) ?_)) | ((with_reducible (refine kd_slice ?_)); (first | refine l1_p (y_sliceTo _ _ _ rfl rfl rfl Se.out Sz.out (by omega) (by omega)) ?_ | refine l1_p (y_slice2 _ _ _ _ rfl rfl rfl rfl Se.out Sz.out (by omega) (by omega) (by omega)) ?_ | refine l1_p (y_sliceFrom _ _ _ rfl rfl rfl Se.out Sz.out (by omega) (by omega)) ?_)) | ((with_reducible (refine kd_load ?_)); (first | refine l1_y (S := fun w => Sat _ w _) H (y_load1 0 _ _ rfl rfl rfl Ag.out rfl) ?_ | refine l1_y (S := fun w => Sat _ w _) H (y_loadN 0 _ _ rfl rfl rfl Ag.out Sz.out (by simp only [List.length_cons, List.length_nil]; omega)) ?_ | refine l1_y (S := fun w => Sat _ w _) H (y_rowLoad1 0 _ _ rfl rfl rfl Ag.out (by first | rfl | assumption)) ?_))))); (try simp only [Act.put, List.setIfInBounds_toArray, List.set_cons_zero, List.set_cons_succ, Nat.zero_add, Nat.add_zero, Nat.mul_one, Nat.reduceAdd, Nat.reduceMul, Int.toNat_natCast, Int.reduceAdd, Int.reduceSub, Int.reduceMul, Int.add_sub_cancel, Int.zero_add])))) | (with_reducible (refine wp_scope_straight ?_)) | (with_reducible (refine wp_label ?_)) | (with_reducible (refine noGoto_ret ?_)) | ((fail_if_success (with_reducible (refine wl_id ?_))); go_step)))
  generalize hq : (if c = i then p else Option.map (fun x => x.add i) p) = q
  have Hq : i < j → ∃ g m, q = some ⟨g, m, none⟩ ∧ ∀ (r : Nat) x w, (xs.drop i)[r]? = some x → Sat W w L → w.cell? ⟨g, m + r, none⟩ = some (.int .i64 x) := by
    intro h
    obtain ⟨g, m, rfl, hg⟩ := hp (by omega)
    rw [if_neg (by omega)] at hq
    subst hq
    refine ⟨g, m + i, by simp [add_lit], fun r x w hx H => ?_⟩
    rw [Nat.add_assoc]; exact hg (i + r) x w (by rw [← hx, List.getElem?_drop]) H
  clear hq hp
  go_loopw [8, 9, 30] (fun lv n q wr => ∃ (k : Nat) (d : Int), q = .int .i64 k ∧ k ≤ j - i ∧ lv = .int .i64 0 ∧ n = .int .i64 d ∧ 0 ≤ d ∧ d ≤ k ∧ Hid (baseGo ((xs.take j).drop i) 0 = baseGo ((xs.take j).drop (i + k)) d) ∧ Sat W wr L) (fun _ _ q _ => j - i - (intOf q).toNat)
  case atStart => exact ⟨0, 0, rfl, Nat.zero_le _, rfl, rfl, by omega, by omega, rfl, H⟩
  case round =>
    obtain ⟨k, d, rfl, hk, rfl, rfl, hd0, hdk, ht, H⟩ := hrel
    by_cases hlt : k < j - i
    · obtain ⟨g, m, rfl, hg⟩ := Hq (by omega)
      have hlt2 : i + k < (xs.take j).length := by rw [List.length_take]; omega
      have hd := List.drop_eq_getElem_cons hlt2
      have hx : (xs.drop i)[k]? = some (xs.take j)[i + k] := by rw [List.getElem_take, List.getElem?_drop]; exact List.getElem?_eq_getElem _
      generalize (xs.take j)[i + k] = x at *
      have hB := hid (ht.out.trans (congrArg (baseGo · d) hd))
      rw [baseGo] at hB
      clear hd ht
      rw [show i + k + 1 = i + (k + 1) by omega] at hB
      by_cases h20 : x = 20 <;> by_cases h21 : x = 21 <;> by_cases h22 : x = 22 <;> by_cases h23 : x = 23 <;> by_cases h1 : x = 1 <;> by_cases h2 : x = 2 <;> by_cases h3 : x = 3
      all_goals (try (exfalso; omega))
      all_goals by_cases hd : d = 0 <;> by_cases hd1 : d - 1 > 0
      all_goals (try (exfalso; omega))
      all_goals
        (repeat' (first | ((with_reducible (refine wl_id ?_)); (first | (with_reducible (refine wpList_nil ?_)) | ((refine wl_g rfl ?_); (first | (with_reducible (refine wg_f ?_)) | ((with_reducible (refine wg_t ?_)); (first | ((with_reducible (refine kd_move ?_)); (first | refine l1_p (y_move _ rfl rfl) ?_)) | ((with_reducible (refine kd_assign ?_)); (first | refine l1_p (y_assign _ rfl rfl) ?_)) | ((with_reducible (refine kd_pick ?_)); (first | refine l1_p (y_pickT rfl rfl rfl) ?_ | refine l1_p (y_pickF rfl rfl rfl) ?_ | refine l1_p (y_pickAnd rfl rfl rfl rfl) ?_ | refine l1_p (y_pickOr rfl rfl rfl rfl) ?_)) | ((with_reducible (refine kd_binOp ?_)); (first | refine l1_p (y_cmp _ _ _ _ _ rfl rfl rfl (by first | exact cmp_eq_t (by omega) | exact cmp_eq_f (by omega) | exact cmp_lt_t (by omega) | exact cmp_lt_f (by omega) | exact cmp_gt_t (by omega) | exact cmp_gt_f (by omega) | rfl)) ?_ | refine l1_p (y_add _ _ _ _ rfl rfl rfl (by first | exact IntWalk.i64_in _ (by omega) | exact IntWalk.u8_in _ (by omega) | exact IntWalk.u32_in _ (by omega) | rfl)) ?_ | refine l1_p (y_sub _ _ _ _ rfl rfl rfl (by first | exact IntWalk.i64_in _ (by omega) | exact IntWalk.u8_in _ (by omega) | exact IntWalk.u32_in _ (by omega) | rfl)) ?_ | refine l1_p (y_eqB _ _ _ _ rfl rfl rfl rfl rfl) ?_)) | ((with_reducible (refine kd_call ?_)); (first | refine l1_p (y_len _ _ rfl rfl Se.out) ?_ | refine l1_p (y_lenS _ _ rfl rfl rfl) ?_ | refine l1_p (y_max2 _ _ _ rfl rfl rfl rfl) ?_)) | ((with_reducible (refine kd_indexAddr ?_)); (first | refine l1_p (y_index _ _ _ rfl rfl rfl Se.out Sz.out (by omega) (by omega)) ?_ | refine l1_p (y_indexA _ _ _ rfl rfl rfl Ae.out Sz.out (by omega) (by omega)) ?_)) | ((with_reducible (refine kd_slice ?_)); (first | refine l1_p (y_sliceTo _ _ _ rfl rfl rfl Se.out Sz.out (by omega) (by omega)) ?_ | refine l1_p (y_slice2 _ _ _ _ rfl rfl rfl rfl Se.out Sz.out (by omega) (by omega) (by omega)) ?_ | refine l1_p (y_sliceFrom _ _ _ rfl rfl rfl Se.out Sz.out (by omega) (by omega)) ?_)) | ((with_reducible (refine kd_load ?_)); (first | refine l1_y (S := fun w => Sat _ w _) H (y_rd hg (fun w h => h) _ _ rfl rfl (by omega) Ag.out hx) ?_ | refine l1_y (S := fun w => Sat _ w _) H (y_load1 0 _ _ rfl rfl rfl Ag.out rfl) ?_ | refine l1_y (S := fun w => Sat _ w _) H (y_loadN 0 _ _ rfl rfl rfl Ag.out Sz.out (by simp only [List.length_cons, List.length_nil]; omega)) ?_ | refine l1_y (S := fun w => Sat _ w _) H (y_rowLoad1 0 _ _ rfl rfl rfl Ag.out (by first | rfl | assumption)) ?_))))); (try simp only [Act.put, List.setIfInBounds_toArray, List.set_cons_zero, List.set_cons_succ, Nat.zero_add, Nat.add_zero, Nat.mul_one, Nat.reduceAdd, Nat.reduceMul, Int.toNat_natCast, Int.reduceAdd, Int.reduceSub, Int.reduceMul, Int.add_sub_cancel, Int.zero_add])))) | (with_reducible (refine wp_scope_straight ?_)) | (with_reducible (refine wp_label ?_)) | (with_reducible (refine noGoto_ret ?_)) | ((fail_if_success (with_reducible (refine wl_id ?_))); go_step)))
      all_goals try (refine ret2 rfl rfl rfl rfl ⟨?_, H⟩; have e := hB; simp [stB, *] at e; rw [e])
      all_goals go_roundw
      all_goals try (first | (simp [intOf]; omega) | skip)
      all_goals (refine ⟨k + 1, _, by simp, by omega, rfl, rfl, ?_, ?_, ?_, H⟩)
      all_goals try omega
      all_goals try (unfold Hid; refine hB.trans ?_; simp [stB, *]; done)
    · (repeat' (first | ((with_reducible (refine wl_id ?_)); (first | (with_reducible (refine wpList_nil ?_)) | ((refine wl_g rfl ?_); (first | (with_reducible (refine wg_f ?_)) | ((with_reducible (refine wg_t ?_)); (first | ((with_reducible (refine kd_move ?_)); (first | refine l1_p (y_move _ rfl rfl) ?_)) | ((with_reducible (refine kd_assign ?_)); (first | refine l1_p (y_assign _ rfl rfl) ?_)) | ((with_reducible (refine kd_pick ?_)); (first | refine l1_p (y_pickT rfl rfl rfl) ?_ | refine l1_p (y_pickF rfl rfl rfl) ?_ | refine l1_p (y_pickAnd rfl rfl rfl rfl) ?_ | refine l1_p (y_pickOr rfl rfl rfl rfl) ?_)) | ((with_reducible (refine kd_binOp ?_)); (first | refine l1_p (y_cmp _ _ _ _ _ rfl rfl rfl (by first | exact cmp_eq_t (by omega) | exact cmp_eq_f (by omega) | exact cmp_lt_t (by omega) | exact cmp_lt_f (by omega) | exact cmp_gt_t (by omega) | exact cmp_gt_f (by omega) | rfl)) ?_ | refine l1_p (y_add _ _ _ _ rfl rfl rfl (by first | exact IntWalk.i64_in _ (by omega) | exact IntWalk.u8_in _ (by omega) | exact IntWalk.u32_in _ (by omega) | rfl)) ?_ | refine l1_p (y_sub _ _ _ _ rfl rfl rfl (by first | exact IntWalk.i64_in _ (by omega) | exact IntWalk.u8_in _ (by omega) | exact IntWalk.u32_in _ (by omega) | rfl)) ?_ | refine l1_p (y_eqB _ _ _ _ rfl rfl rfl rfl rfl) ?_)) | ((with_reducible (refine kd_call ?_)); (first | refine l1_p (y_len _ _ rfl rfl Se.out) ?_ | refine l1_p (y_lenS _ _ rfl rfl rfl) ?_ | refine l1_p (y_max2 _ _ _ rfl rfl rfl rfl) ?_)) | ((with_reducible (refine kd_indexAddr ?_)); (first | refine l1_p (y_index _ _ _ rfl rfl rfl Se.out Sz.out (by omega) (by omega)) ?_ | refine l1_p (y_indexA _ _ _ rfl rfl rfl Ae.out Sz.out (by omega) (by omega)) ?_)) | ((with_reducible (refine kd_slice ?_)); (first | refine l1_p (y_sliceTo _ _ _ rfl rfl rfl Se.out Sz.out (by omega) (by omega)) ?_ | refine l1_p (y_slice2 _ _ _ _ rfl rfl rfl rfl Se.out Sz.out (by omega) (by omega) (by omega)) ?_ | refine l1_p (y_sliceFrom _ _ _ rfl rfl rfl Se.out Sz.out (by omega) (by omega)) ?_)) | ((with_reducible (refine kd_load ?_)); (first | refine l1_y (S := fun w => Sat _ w _) H (y_load1 0 _ _ rfl rfl rfl Ag.out rfl) ?_ | refine l1_y (S := fun w => Sat _ w _) H (y_loadN 0 _ _ rfl rfl rfl Ag.out Sz.out (by simp only [List.length_cons, List.length_nil]; omega)) ?_ | refine l1_y (S := fun w => Sat _ w _) H (y_rowLoad1 0 _ _ rfl rfl rfl Ag.out (by first | rfl | assumption)) ?_))))); (try simp only [Act.put, List.setIfInBounds_toArray, List.set_cons_zero, List.set_cons_succ, Nat.zero_add, Nat.add_zero, Nat.mul_one, Nat.reduceAdd, Nat.reduceMul, Int.toNat_natCast, Int.reduceAdd, Int.reduceSub, Int.reduceMul, Int.add_sub_cancel, Int.zero_add])))) | (with_reducible (refine wp_scope_straight ?_)) | (with_reducible (refine wp_label ?_)) | (with_reducible (refine noGoto_ret ?_)) | ((fail_if_success (with_reducible (refine wl_id ?_))); go_step)))
      refine ret2 rfl rfl rfl rfl ⟨?_, H⟩
      have e : (xs.take j).drop (i + k) = [] := List.drop_of_length_le (by rw [List.length_take]; omega)
      rw [ht.out, e]; rfl
end Go.Proofs.Ytmakdbkffeodlaa
