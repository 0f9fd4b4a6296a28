/-
  The walk of explicit.right.
-/
import Derived.Test.YtmakdbkffeodlaaA3
namespace Go.Proofs.Ytmakdbkffeodlaa
open Go.RowKit Sl
set_option linter.unusedVariables false
set_option linter.unusedSimpArgs false
set_option maxRecDepth 100000
attribute [local irreducible] blk row old wpList Ret
variable {W w : World} {L : List Asn}
def rightB (xs : List Int) (x : Int) (i m : Nat) : Bool := if x = 22 then decide (baseGo ((xs.take m).drop (i + 1)) 0 = 1) else decide (x = 21)
set_option maxHeartbeats 4000000 in
theorem right_spec (H : Sat W w L) {u v : Value} {xs ms : List Int} (hu : Rd W L u xs) (hv : Rd W L v ms) (hm : xs.length ≤ 1000000000) (hl : ms.length = xs.length) (i m : Nat) {x : Int} (hx : xs[i]? = some x) (hmi : ms[i]? = some (m : Int)) (him : x = 22 → i < m ∧ m ≤ xs.length) :
    Ret Try.prog 34 #[u, v, .int .i64 i] w fun v w' => v = .bool (rightB xs x i m) ∧ Sat W w' L := by
  have hi : i < xs.length := (List.getElem?_eq_some_iff.1 hx).1
  have hU := hu
  obtain ⟨p, c, rfl, hc, hp⟩ := hu
  obtain ⟨q, d, rfl, hd, hq⟩ := hv
  obtain ⟨g, k, rfl, hg⟩ := hp (by omega)
  obtain ⟨g2, k2, rfl, hg2⟩ := hq (by omega)
  (unfold Ret; go_enter Try.func34, Try.ntmps34)
  by_cases h22 : x = 22
  · obtain ⟨h1, h2⟩ := him h22
    (repeat' (first | ((with_reducible (refine wl_id ?_)); (first | (with_reducible (refine wpList_nil ?_)) | ((refine wl_g rfl ?_); (first | (with_reducible (refine wg_f ?_)) | ((with_reducible (refine wg_t ?_)); (first | ((with_reducible (refine kd_move ?_)); (first | refine l1_p (y_move _ rfl rfl) ?_)) | ((with_reducible (refine kd_assign ?_)); (first | refine l1_p (y_assign _ rfl rfl) ?_)) | ((with_reducible (refine kd_extract ?_)); (first | refine l1_p (y_extract _ _ rfl rfl rfl) ?_)) | ((with_reducible (refine kd_binOp ?_)); (first | refine l1_p (y_cmp _ _ _ _ _ rfl rfl rfl (by first | exact cmp_eq_t (by omega) | exact cmp_eq_f (by omega) | exact cmp_ne_t (by omega) | exact cmp_ne_f (by omega) | rfl)) ?_ | refine l1_p (y_add _ _ _ _ rfl rfl rfl (by first | exact IntWalk.i64_in _ (by omega) | exact IntWalk.u8_in _ (by omega) | exact IntWalk.u32_in _ (by omega) | rfl)) ?_ | refine l1_p (y_eqB _ _ _ _ rfl rfl rfl rfl rfl) ?_ | refine l1_p (y_neB _ _ _ _ rfl rfl rfl rfl rfl) ?_)) | ((with_reducible (refine kd_indexAddr ?_)); (first | refine l1_p (y_index _ _ _ rfl rfl rfl Se.out Sz.out (by omega) (by omega)) ?_ | refine l1_p (y_indexA _ _ _ rfl rfl rfl Ae.out Sz.out (by omega) (by omega)) ?_)) | ((with_reducible (refine kd_load ?_)); (first | refine l1_y (S := fun w => Sat _ w _) H (y_rd hg2 (fun w h => h) _ _ rfl rfl (by omega) Ag.out hmi) ?_ | refine l1_y (S := fun w => Sat _ w _) H (y_rd hg (fun w h => h) _ _ rfl rfl (by omega) Ag.out hx) ?_ | refine l1_y (S := fun w => Sat _ w _) H (y_load1 0 _ _ rfl rfl rfl Ag.out rfl) ?_ | refine l1_y (S := fun w => Sat _ w _) H (y_loadN 0 _ _ rfl rfl rfl Ag.out Sz.out (by simp only [List.length_cons, List.length_nil]; omega)) ?_ | refine l1_y (S := fun w => Sat _ w _) H (y_rowLoad1 0 _ _ rfl rfl rfl Ag.out (by first | rfl | assumption)) ?_)) | ((with_reducible (refine kd_call ?_)); (first | (refine l1_cf (c_call rfl rfl ((by exact base_spec H hU hm (i + 1) m (by omega) (by omega))) ?_); clear H; rintro v_ w_ ⟨rfl, H⟩)))))); (try simp only [Act.put, List.setIfInBounds_toArray, List.set_cons_zero, List.set_cons_succ, Nat.zero_add, Nat.add_zero, Nat.mul_one, Nat.reduceAdd, Nat.reduceMul, Int.toNat_natCast, Int.reduceAdd, Int.reduceSub, Int.reduceMul, Int.add_sub_cancel, Int.zero_add])))) | (with_reducible (refine wp_scope_straight ?_)) | (with_reducible (refine wp_label ?_)) | (with_reducible (refine noGoto_ret ?_)) | ((fail_if_success (with_reducible (refine wl_id ?_))); go_step)))
    refine ret1 rfl rfl rfl ⟨?_, H⟩
    simp [rightB, h22, ← Bool.beq_eq_decide_eq]
  · (repeat' (first | ((with_reducible (refine wl_id ?_)); (first | (with_reducible (refine wpList_nil ?_)) | ((refine wl_g rfl ?_); (first | (with_reducible (refine wg_f ?_)) | ((with_reducible (refine wg_t ?_)); (first | ((with_reducible (refine kd_move ?_)); (first | refine l1_p (y_move _ rfl rfl) ?_)) | ((with_reducible (refine kd_assign ?_)); (first | refine l1_p (y_assign _ rfl rfl) ?_)) | ((with_reducible (refine kd_extract ?_)); (first | refine l1_p (y_extract _ _ rfl rfl rfl) ?_)) | ((with_reducible (refine kd_binOp ?_)); (first | refine l1_p (y_cmp _ _ _ _ _ rfl rfl rfl (by first | exact cmp_eq_t (by omega) | exact cmp_eq_f (by omega) | exact cmp_ne_t (by omega) | exact cmp_ne_f (by omega) | rfl)) ?_ | refine l1_p (y_add _ _ _ _ rfl rfl rfl (by first | exact IntWalk.i64_in _ (by omega) | exact IntWalk.u8_in _ (by omega) | exact IntWalk.u32_in _ (by omega) | rfl)) ?_ | refine l1_p (y_eqB _ _ _ _ rfl rfl rfl rfl rfl) ?_ | refine l1_p (y_neB _ _ _ _ rfl rfl rfl rfl rfl) ?_)) | ((with_reducible (refine kd_indexAddr ?_)); (first | refine l1_p (y_index _ _ _ rfl rfl rfl Se.out Sz.out (by omega) (by omega)) ?_ | refine l1_p (y_indexA _ _ _ rfl rfl rfl Ae.out Sz.out (by omega) (by omega)) ?_)) | ((with_reducible (refine kd_load ?_)); (first | refine l1_y (S := fun w => Sat _ w _) H (y_rd hg2 (fun w h => h) _ _ rfl rfl (by omega) Ag.out hmi) ?_ | refine l1_y (S := fun w => Sat _ w _) H (y_rd hg (fun w h => h) _ _ rfl rfl (by omega) Ag.out hx) ?_ | refine l1_y (S := fun w => Sat _ w _) H (y_load1 0 _ _ rfl rfl rfl Ag.out rfl) ?_ | refine l1_y (S := fun w => Sat _ w _) H (y_loadN 0 _ _ rfl rfl rfl Ag.out Sz.out (by simp only [List.length_cons, List.length_nil]; omega)) ?_ | refine l1_y (S := fun w => Sat _ w _) H (y_rowLoad1 0 _ _ rfl rfl rfl Ag.out (by first | rfl | assumption)) ?_))))); (try simp only [Act.put, List.setIfInBounds_toArray, List.set_cons_zero, List.set_cons_succ, Nat.zero_add, Nat.add_zero, Nat.mul_one, Nat.reduceAdd, Nat.reduceMul, Int.toNat_natCast, Int.reduceAdd, Int.reduceSub, Int.reduceMul, Int.add_sub_cancel, Int.zero_add])))) | (with_reducible (refine wp_scope_straight ?_)) | (with_reducible (refine wp_label ?_)) | (with_reducible (refine noGoto_ret ?_)) | ((fail_if_success (with_reducible (refine wl_id ?_))); go_step)))
    refine ret1 rfl rfl rfl ⟨?_, H⟩
    simp [rightB, h22, ← Bool.beq_eq_decide_eq]
end Go.Proofs.Ytmakdbkffeodlaa
